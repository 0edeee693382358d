/- Contracts. Conditions: those each states. -/
import Derived.DeepKeys4
import Derived.Test.YtbolcebmbpepdaaGreatDoorM03
namespace Go.Proofs.YtbolcebmbpepdaaGreatDoor
set_option maxRecDepth 100000
set_option maxHeartbeats 8000000
set_option linter.all false
open Go.RowKit Tryz
section
open Go.Maps (Keyed)
def zIa(f t:Int):Value:= .agg #[.int .i64 f,.int .i64 t]
theorem way_laid:laidOutB prog=true:=by kernel_rfl
theorem way_row:(194:TypeId)<prog.types.size:=of_decide_eq_true (by kernel_rfl)
theorem way_kt:prog.keyTypeAt 2 194=true:=by kernel_rfl
theorem way_law:Keyed prog 194:=Keyed.of_law (deep_law_laid way_laid (m:=2) (Nat.le_of_ble_eq_true rfl) way_row way_kt (by rw[underlying194]))
theorem way_deep:prog.keyTypeAt (prog.types.size+1) 194=true:=by kernel_rfl
theorem zUp:prog.cellsOf 194=2:=by kernel_rfl
theorem yHu:prog.cellsOf 3=1:=by kernel_rfl
theorem yDj(f t:Int):(zIa f t).formed prog 194=true:=by simp[zIa,Value.formed,underlying194,zUp]
theorem yCp(w:World)(f t:Int)(hf:(Lit.int .i64 f).wf=true)(ht:(Lit.int .i64 t).wf=true):∃l,keyOf prog 194 (zIa f t)=some l:=by
 have hT:∃d ps,DataW.Trod (H:=Unit) (λ_=>()) prog w 0 (λ_=>true) true 194 (zIa f t) d ps:=by exact⟨_,_,3,by simp[DataW.trod,zIa,Value.cells,underlying194,underlying3,zUp,yHu,show List.range 2=[0,1]from rfl,hf,ht];exact⟨rfl,rfl⟩⟩
 obtain⟨d,ps,hd⟩:=hT;exact⟨_,(keyOf_asKey way_deep (by rw[underlying194]) (yDj f t) hd).1⟩
theorem int_zero(w:World):(zeroValue 3).run prog w= .ok (.int .i64 0) w:=by kernel_rfl
def WayMap(w:World)(b n:Nat)(top:Int->Int->Int):Prop:=
 ∃D:DataW Unit,w.ownsMap prog 194 (plainElem prog 3) b n D/\∀f t l,keyOf prog 194 (zIa f t)=some l->D.atKey l (.lit (.int .i64 0))= .lit (.int .i64 (top f t))
section
variable {w w':World}{b n:Nat}{top:Int->Int->Int}
theorem WayMap.made(w:World):WayMap (w.alloc (.map #[] 0)) w.heap.size 0 (λ_ _=>0):=
 ⟨.map [],World.ownsMap_made w _ _ _,λf t l _=>WideAt.atKey_none _ λp hp=>by cases hp⟩
theorem WayMap.lt(h:WayMap w b n top):b<w.heap.size:=by obtain⟨D,h,_⟩:=h;exact h.lt
theorem WayMap.mono{n':Nat}(h:WayMap w b n top)(hn:n<=n'):WayMap w b n' top:=by obtain⟨D,h,k⟩:=h;exact⟨D,h.mono hn,k⟩
theorem WayMap.only{D:Nat->Prop}(h:WayMap w b n top)(ho:Only D w w')(hn:¬ D b):WayMap w' b n top:=by have hlt:=h.lt;obtain⟨E,⟨es,clock,hb,r⟩,k⟩:=h;exact⟨E,⟨es,clock,(ho.block b hlt hn).trans hb,r⟩,k⟩
theorem WayMap.below(h:WayMap w b n top)(hb:uR w w'):WayMap w' b n top:=h.only (D:=λ_=>False) (Only.of_below hb λx h1 h2=>by omega) (λe=>e)
theorem WayMap.look(h:WayMap w b n top)(f t:Int)(hf:(Lit.int .i64 f).wf=true)(ht:(Lit.int .i64 t).wf=true):(Instr.lookup 165 (.map (some b)) (zIa f t) false).run prog w= .ok (.int .i64 (top f t)) w:=by obtain⟨l,hl⟩:=yCp w f t hf ht;obtain⟨D,h,k⟩:=h;obtain⟨c,hrun,hat,_⟩:=h.lookup_int way_law underlying165 underlying3 (int_zero w) hl;have h1:top f t=c:=(Lit.int.inj (DataW.lit.inj ((k f t l hl).symm.trans hat))).2;exact hrun.trans (by rw[h1])
theorem WayMap.store(h:WayMap w b n top)(f t v:Int)(hf:(Lit.int .i64 f).wf=true)(ht:(Lit.int .i64 t).wf=true)(hv:(Lit.int .i64 v).wf=true)(hn:n<maxLen):∃w',(Instr.mapUpdate 165 (.map (some b)) (zIa f t) (.int .i64 v)).run prog w= .ok () w'/\WayMap w' b (n+1) (λf' t'=>if f'=f/\t'=t then v else top f' t')/\w.grownBy w' (some b):=by
 obtain⟨l,hl⟩:=yCp w f t hf ht;obtain⟨D,h,k⟩:=h;obtain⟨w',hrun,hown,hg⟩:=h.update way_law underlying165 hn hl (plainElem_int underlying3 hv);refine⟨w',hrun,⟨_,hown,λf' t' l' hl'=> ?_⟩,hg⟩;show _=DataW.lit (Lit.int .i64 (if f'=f/\t'=t then v else top f' t'));by_cases he:f'=f/\t'=t
 ·obtain⟨rfl,rfl⟩:=he;have e:=Option.some.inj (hl.symm.trans hl');subst e;rw[if_pos ⟨rfl,rfl⟩];exact Maps.atKey_put_same h.isMap (way_law.key hl) _ _
 ·rw[if_neg he,Maps.atKey_put_other λe=>he ?_]
  ·exact k f' t' l' hl'
  ·subst e;have:=way_law.inj hl hl';unfold zIa at this;injection this with this;simp at this;exact⟨this.1.symm,this.2.symm⟩
end
end
structure PoD where
 fr:Int
 to_:Int
 data:List Int
structure Po where
 d:PoD
 A:Option Addr
 n:Nat
 c:Nat
def Po.cells(p:Po):List Value:=[.int .i64 p.d.fr,.int .i64 p.d.to_,.slice p.A p.n p.c]
theorem Po.cells_len(p:Po):p.cells.length=3:=rfl
def zOh(p:Po)(w:World)(base:Nat):Prop:=w.ownsRow base 5 1 (.slice p.A p.n p.c) p.n (p.d.data.map (.int .u8))
structure OfAt(w:World)(base g b:Nat)(v:Value)(l:List Po)(m:Nat)(top:Int->Int->Int):Prop where
 blk:Blk w g 168 #[v,.map (some b)]
 own:w.ownsRow base 187 3 v l.length (l.flatMap Po.cells)
 rows:∀p∈l,zOh p w base
 map:WayMap w b m top
 wf:∀p∈l,(Lit.int .i64 p.d.fr).wf=true/\(Lit.int .i64 p.d.to_).wf=true
theorem zGm{w:World}{g b m:Nat}{t:TypeId}{cs:Array Value}{top:Int->Int->Int}(h:Blk w g t cs)(k:WayMap w b m top):g≠b:=λe=>by obtain⟨D,⟨es,clock,hb,_⟩,_⟩:=k;rw[<-e]at hb;have:=h.symm.trans hb;injection this with this;injection this
theorem zIn{w:World}{base b m size n:Nat}{e:TypeId}{v:Value}{xs:List Value}{top:Int->Int->Int}(h:w.ownsRow base e size v n xs)(k:WayMap w b m top):v.ownBlock≠some b:=λhe=>by
 rcases h.2 with⟨rfl,_⟩|⟨g',cap,cur,rfl,_,hh,_⟩
 ·simp[Value.ownBlock]at he
 ·have hg:g'=b:=by simpa[Value.ownBlock]using he
  subst hg;exact zGm (t:=e) hh k rfl
section
variable {w w':World}{base g b m:Nat}{v:Value}{l:List Po}{top:Int->Int->Int}
theorem OfAt.c0(h:OfAt w base g b v l m top):w.cell? ⟨g,0,none⟩=some v:=h.blk.cell 0
theorem OfAt.c1(h:OfAt w base g b v l m top):w.cell? ⟨g,1,none⟩=some (.map (some b)):=h.blk.cell 1
theorem OfAt.only{D:Nat->Prop}(h:OfAt w base g b v l m top)(ho:Only D w w')(h1:¬ D g)(h2:¬ D b)(h3:∀k,v.ownBlock=some k->¬ D k)(h4:∀p∈l,∀k,(Value.slice p.A p.n p.c).ownBlock=some k->¬ D k):OfAt w' base g b v l m top:=
 ⟨h.blk.only ho h1,bL h.own ho h3,λp hp=>bL (h.rows p hp) ho (h4 p hp),h.map.only ho h2,h.wf⟩
theorem OfAt.calm(h:OfAt w base g b v l m top)(hb:uR w w'):OfAt w' base g b v l m top:=
 h.only (D:=λ_=>False) (Only.of_below hb λx h1 h2=>by omega) (λe=>e) (λe=>e) (λ_ _ e=>e) (λ_ _ _ _ e=>e)
end
def toP(l:List PoD)(id:Int):Int:=if id<0 then-1 else match l[id.toNat]? with|some p=>p.to_|none=> -1
theorem zGr(base g b m:Nat)(v:Value)(l:List Po)(top:Int->Int->Int)(w:World)(id:Int)(h:OfAt w base g b v l m top)(hlm:l.length<=9223372036854775807):Calls prog 83 #[.pointer (some ⟨g,0,none⟩),.int .i64 id] w λe w'=>e= .returned (.int .i64 (toP (l.map (·.d)) id))/\w=w':=by
 obtain⟨A,c,rfl,_⟩:=bE h.own;have c0:=h.c0;by_cases h1:id<0
 ·have HF:=uT (show toP (l.map (·.d)) id= -1 from if_pos h1);have hd1:decide (id<0)=true:=decide_eq_true h1;clear h;go_enter func83,ntmps83;go_wp2_with fail;go_ret;exact⟨fG HF.s.symm,rfl⟩
 obtain⟨k,rfl⟩:=qP (show 0<=id by omega);have hd1:decide ((k:Int)<0)=false:=decide_eq_false h1;by_cases h2:k<l.length
 ·have hr:=Reads.of_own h.own;obtain⟨bl,o,x,rfl,_,hx,hc⟩:=fB Po.cells_len (by omega) hr h2 rfl;have HF:=uT (show toP (l.map (·.d)) k=x.d.to_ by unfold toP;rw[if_neg h1,qR,qV,hx];rfl);have x1:=hc 1 _ rfl;have h3:(k:Int)<(l.length:Int):=by omega
  obtain⟨n,hn⟩:=kB l.length;rw[<-hn]at c0 h3 h2 hlm;clear h hr hc hx hn h1;go_enter func83,ntmps83;go_wp2_with fail;go_ret;exact⟨fG HF.s.symm,rfl⟩
 ·have HF:=uT (show toP (l.map (·.d)) k= -1 by unfold toP;rw[if_neg h1,qR,qV,qU (by omega)];rfl);have h3:(l.length:Int)<=(k:Int):=by omega
  obtain⟨n,hn⟩:=kB l.length;rw[<-hn]at c0 h3 h2 hlm;clear h hn h1;go_enter func83,ntmps83;go_wp2_with fail;go_ret;exact⟨fG HF.s.symm,rfl⟩
theorem yBs:(prog.info? 187).map (λi=>(i.zero,i.size,i.bytes))=some (some (.agg #[.int .i64 0,.int .i64 0,.slice none 0 0]),3,40):=by kernel_rfl
theorem yBi:∃i,prog.info? 187=some i/\i.zero=some (.agg #[.int .i64 0,.int .i64 0,.slice none 0 0])/\i.size=3/\i.bytes=40:=by
 have h:=yBs;cases hi:prog.info? 187 with
 |none=>rw[hi]at h;simp at h
 |some i=>rw[hi]at h;simp at h;exact⟨i,rfl,h.1,h.2.1,h.2.2⟩
theorem zUv(k:IntKind)(l:List Int):∀u∈l.map (Value.int k),u.oneCell'=true:=by intro u hu;obtain⟨z,_,rfl⟩:=jC.1 hu;rfl
section
variable {w w1 w':World}{base g b m:Nat}{v v':Value}{l:List Po}{p:Po}{top:Int->Int->Int}
theorem OfAt.ne_g(h:OfAt w base g b v l m top):v.ownBlock≠some g:=bC h.own h.blk (by decide)
theorem OfAt.grows(h:OfAt w base g b v l m top)(hp:zOh p w base)(hw:(Lit.int .i64 p.d.fr).wf=true/\(Lit.int .i64 p.d.to_).wf=true)(hg:w.grownBy w1 v.ownBlock)(hown:w1.ownsRow base 187 3 v' (l.length+1) (l.flatMap Po.cells++p.cells)):OfAt (w1.setCell ⟨g,0,none⟩ v') base g b v' (l++[p]) m top:=by
 have ho1:Only (λk=>v.ownBlock=some k) w w1:=(Only.refl _ _).grown hg λk hk _=>hk
 have ho2:Only (λk=>k=g) w1 (w1.setCell ⟨g,0,none⟩ v'):=bJ (Only.refl _ _) _ _;have hk1:Blk w1 g 168 #[v,.map (some b)]:=h.blk.only ho1 h.ne_g;have hrow:∀x,zOh x w base->zOh x (w1.setCell ⟨g,0,none⟩ v') base:=λx hx=>by have h1:zOh x w1 base:=jS hx hg (dV hx h.own (by decide));exact bL h1 ho2 λk hk e=>bC h1 hk1 (by decide) (by rw[hk,e])
 refine⟨hk1.set_ 0 v',?_,λx hx=> ?_,(h.map.only ho1 (zIn h.own h.map)).only ho2 (λe=>zGm h.blk h.map e.symm),λx hx=> ?_⟩
 ·rw[qM,jN];refine bL (v:=v') (by simpa using hown) ho2 λk hk e=>bC hown hk1 (by decide) (by rw[hk,e])
 ·rcases jI.1 hx with h1|h1
  ·exact hrow x (h.rows x h1)
  ·rw[jJ]at h1;subst h1;exact hrow x hp
 ·rcases jI.1 hx with h1|h1
  ·exact h.wf x h1
  ·rw[jJ]at h1;subst h1;exact hw
end
def PoPost(base g b m:Nat)(v:Value)(w:World)(l:List Po)(top:Int->Int->Int)(d:PoD)(e:Ending)(w':World):Prop:=
 ∃v' p,e= .returned (.int .i64 l.length)/\p.d=d/\OfAt w' base g b v' (l++[p]) m top/\Only (λk=>k=g\/v.ownBlock=some k) w w'/\
  (∀k,v'.ownBlock=some k->v.ownBlock=some k\/w.heap.size<=k)/\(∀k,(Value.slice p.A p.n p.c).ownBlock=some k->w.heap.size<=k)
theorem zSz(base g b m:Nat)(v:Value)(l:List Po)(top:Int->Int->Int)(w:World)(fr to_:Int)(A:Option Addr)(n c:Nat)(data:List Int)(B:Nat)(h:OfAt w base g b v l m top)(hlm:l.length<=1000000)(hdl:data.length=n)(hn:n<=1000000)(hr:Reads w B 1 A n (data.map (.int .u8)))(hB:B<=w.heap.size)(hb0:base<=w.heap.size)(hf:(Lit.int .i64 fr).wf=true)(ht:(Lit.int .i64 to_).wf=true):Calls prog 78 #[.pointer (some ⟨g,0,none⟩),.int .i64 fr,.int .i64 to_,.slice A n c] w (PoPost base g b m v w l top ⟨fr,to_,data⟩):=by
 obtain⟨HC,HX⟩:=uI (λW (hW:uR w W)=>zSk A n c _ B W (zUv .u8 data) (by omega) (hr.below (hW.mono hB)) (qN hB hW.size)) h;obtain⟨Al,cl,rfl,_⟩:=bE h.own;have c0:=h.c0;have ce0:=λn:Ext w=>n.cell c0
 obtain⟨i0,hi,hz0,hz1,hz2⟩:=yBi;obtain⟨q,hq⟩:=kB l.length;have hlm2:l.length<=1000000:=hlm;rw[<-hq]at ce0 hlm;have HQ:=uT hq;have hMb:(q+1)*40<=140737488355328:=by omega
 clear h hr c0 hq;go_enter func78,ntmps78;go_upto_region 1 with fail;rw[<-HQ.s];refine bO [0] [1,2,3,4,5,6,7] [] [8,9,10] 11 [12,13,14] (by kernel_rfl) (by kernel_rfl) (by intro c a d v w h;cases d<;>exact h) ?_;simp only[bB,qJ,qO,qD,qE]
 repeat(go_big_quiet_step (fail))
 refine qF ?_
 repeat(go_big_quiet_step (fail))
 refine qF (qF ?_);rintro _ ⟨nq,rfl⟩;simp only[fJ];go_wp2_with fail;refine(HC.s _ nq.h).mono ?_;rintro _ w2 ⟨v2,rfl,ho2,hb2⟩;obtain⟨A2,c2,rfl,_⟩:=bE ho2;have hk2:uR w w2:=nq.h.trans (hb2.mono nq.h.size);have hs2:=hk2.size;go_wp2_with fail;refine⟨⟨⟨_,hk2⟩,rfl⟩,?_⟩;go_wp2_with fail;refine⟨⟨⟨_,hk2⟩,rfl⟩,?_⟩;go_wp2_with fail;refine⟨⟨⟨_,hk2.alloc hs2 _⟩,rfl⟩,?_⟩;obtain⟨HX2,HO2,HN,HK2⟩:=uK (HX.s.calm hk2) ho2 nq.h.size hk2;clear ho2 hb2;go_wp2_with(first
  |(at_builtin;(refine bF _ rfl (.tmp 13) (.tmp 19) _ rfl base 187 i0 _ 3 40 underlying166 hi hz0 hz1 hz2 rfl (by omega) (by omega) _ _ _ HX2.s.own (by rw[<-HQ.s];rfl) _ 1 _ rfl rfl rfl (by simp[Value.oneCell']) (by rw[<-HQ.s];exact hMb) (by omega) ?_);intro g4 cap4 w4 hg4 hown4 hbel4 hgr4 hat4;have hk4:=HX2.s.blk.grown hgr4 (Ne.symm HX2.s.ne_g);have u0:=hk4.cell 0;have fu:=hk4.frozen 0;have HK4:=uT (And.intro hown4 (And.intro hgr4 hat4));clear hg4 hown4 hbel4 hgr4 hat4 hk4))
 have hfin:=uT (HX2.s.grows (p:=⟨⟨fr,to_,data⟩,A2,n,c2⟩) (dU HO2.s (by have:=HN.s;omega)) ⟨hf,ht⟩ HK4.s.2.1 HK4.s.1);go_ret;refine⟨_,⟨⟨fr,to_,data⟩,A2,n,c2⟩,by first|rfl|exact fG (by omega),rfl,hfin.s,?_,λk hk=> ?_,λk hk=> ?_⟩
 ·have h1:Only (λk=>k=g\/Value.ownBlock (.slice Al l.length cl)=some k) w w2:=Only.of_below HK2.s λx hx hB=>by omega
  exact Only.setCell (h1.grown HK4.s.2.1 λx hx _=> .inr hx) (λ_=> .inl rfl) _
 ·have hk':g4=k:=by simpa[Value.ownBlock]using hk
  rcases HK4.s.2.2 with h1|h1
  ·exact .inl (by rw[<-hk',h1])
  ·right;omega
 ·have:=(HO2.s.lt k hk).1;have:=HN.s;omega
def zHh(l:List PoD)(top:Int->Int->Int)(to_ id:Int):(Int->Int->Int)×List Int×Int:=
 if toP l id<0 then(top,[],6)else if toP l id≠to_ then(top,[],11)else
  match l[id.toNat]? with
  |none=>(top,[],6)
  |some p=>if id<top p.fr p.to_ then(top,[],10)else(λf t=>if f=p.fr/\t=p.to_ then id+1 else top f t,p.data,0)
def OpPost(base g b m:Nat)(v:Value)(w:World)(l:List Po)(r:(Int->Int->Int)×List Int×Int)(e:Ending)(w':World):Prop:=
 ∃A n c,e= .returned (.tuple #[.slice A n c,.int .i64 r.2.2])/\w'.ownsRow w.heap.size 5 1 (.slice A n c) n (r.2.1.map (.int .u8))/\OfAt w' base g b v l (m+1) r.1/\Only (λk=>k=b) w w'
theorem OfAt.more{w:World}{base g b m m':Nat}{v:Value}{l:List Po}{top:Int->Int->Int}(h:OfAt w base g b v l m top)(hm:m<=m'):OfAt w base g b v l m' top:=⟨h.blk,h.own,h.rows,h.map.mono hm,h.wf⟩
theorem OfAt.stored{w w':World}{base g b m:Nat}{v:Value}{l:List Po}{top top':Int->Int->Int}(h:OfAt w base g b v l m top)(hm:WayMap w' b (m+1) top')(hg:w.grownBy w' (some b)):OfAt w' base g b v l (m+1) top':=by
 have ho:Only (λk=>k=b) w w':=(Only.refl _ _).grown hg λk hk _=>(by simpa using hk.symm)
 exact⟨h.blk.only ho (zGm h.blk h.map),bL h.own ho (λk hk e=>zIn h.own h.map (by rw[hk,e])),λp hp=>bL (h.rows p hp) ho (λk hk e=>zIn (h.rows p hp) h.map (by rw[hk,e])),hm,h.wf⟩
theorem zMb{w w':World}{base g b m:Nat}{v:Value}{l:List Po}{top:Int->Int->Int}{c:Int}(h:OfAt w base g b v l m top)(hb:uR w w'):OpPost base g b m v w l (top,[],c) (.returned (.tuple #[.slice none 0 0,.int .i64 c])) w':=
 ⟨none,0,0,rfl,qH _ _ _ _,(h.calm hb).more (jF _),Only.of_below hb λx h1 h2=>by omega⟩
theorem zTj(base g b m:Nat)(v:Value)(l:List Po)(top:Int->Int->Int)(w:World)(to_ id:Int)(h:OfAt w base g b v l m top)(hlm:l.length<=1000000)(hm:m<maxLen)(hb0:base<=w.heap.size)(hbytes:∀p∈l,p.n<=1000000)(hw:(Lit.int .i64 to_).wf=true):Calls prog 84 #[.pointer (some ⟨g,0,none⟩),.int .i64 to_,.int .i64 id] w (OpPost base g b m v w l (zHh (l.map (·.d)) top to_ id)):=by
 have HT:=uT (zGr base g b m v l top w id h (by omega));by_cases h1:toP (l.map (·.d)) id<0
 ·obtain⟨HF,HX⟩:=uI (show zHh (l.map (·.d)) top to_ id=(top,[],6)from if_pos h1) h;generalize toP (l.map (·.d)) id=who at HT h1;have hd1:decide (who<0)=true:=decide_eq_true h1;clear h;go_enter func84,ntmps84;go_wp2_with fail;refine HT.s.mono ?_;rintro _ _ ⟨rfl,rfl⟩;go_wp2_with fail;go_ret2;rw[HF.s];exact zMb HX.s (qC _ _)
 by_cases h2:toP (l.map (·.d)) id≠to_
 ·obtain⟨HF,HX⟩:=uI (show zHh (l.map (·.d)) top to_ id=(top,[],11)by unfold zHh;rw[if_neg h1,if_pos h2]) h;generalize toP (l.map (·.d)) id=who at HT h1 h2;have hd1:decide (who<0)=false:=decide_eq_false h1;have hd2:(who !=to_)=true:=by simpa using h2
  clear h;go_enter func84,ntmps84;go_wp2_with fail;refine HT.s.mono ?_;rintro _ _ ⟨rfl,rfl⟩;go_wp2_with fail;go_ret2;rw[HF.s];exact zMb HX.s (qC _ _)
 have h2':toP (l.map (·.d)) id=to_:=Classical.not_not.1 h2;have hid:¬ id<0:=λe=>h1 (by unfold toP;rw[if_pos e];decide)
 obtain⟨k,rfl⟩:=qP (show 0<=id by omega);have hkl:k<l.length:=Nat.not_le.1 λe=>h1 (by unfold toP;rw[if_neg hid,qR,qV,qU e];decide)
 obtain⟨A,c,rfl,_⟩:=bE h.own;obtain⟨bl,o,x,rfl,hbl,hx,hc⟩:=fB Po.cells_len (by omega) (Reads.of_own h.own) hkl rfl;have hxm:=qB hx;have hrow:=h.rows x hxm;have hxw:=h.wf x hxm;have hxn:=hbytes x hxm;obtain⟨⟨fr,to2,data⟩,A2,n2,c2⟩:=x;have hto:to2=to_:=by rw[<-h2'];unfold toP;rw[if_neg hid,qR,qV,hx];rfl
 subst hto;have HS:=uT (show zHh (l.map (·.d)) top to2 k=if(k:Int)<top fr to2 then(top,[],10)else(λf t=>if f=fr/\t=to2 then(k:Int)+1 else top f t,data,0)by unfold zHh;rw[if_neg h1,if_neg h2,qR,qV,hx];rfl)
 rw[h2']at HT h1;have hd1:decide (to2<0)=false:=decide_eq_false h1;have d0:=hc 0 _ rfl;have d1:=hc 1 _ rfl;have d2:=hc 2 _ rfl;have e0:=h.c0;have e1:=h.c1;simp only[Nat.add_zero]at d0;dsimp only at d0 d1 d2 hrow hxn hxw;obtain⟨q,hq⟩:=kB l.length;rw[<-hq]at e0 hlm hkl;have hkq:(k:Int)<(q:Int):=by omega
 obtain⟨HX,HR⟩:=uI h hrow;obtain⟨wx,hwx⟩:=kB (w.alloc (.cells #[.int .i64 fr,.int .i64 to2,.slice A2 n2 c2] 187));obtain⟨wy,hwy⟩:=kB (wx.alloc (.cells #[.int .i64 fr,.int .i64 to2] 194));have hbx:=uH hwx;have hby:uR w wy:=by rw[hwy];exact hbx.alloc hbx.size _
 have kx:Blk wx w.heap.size 187 #[.int .i64 fr,.int .i64 to2,.slice A2 n2 c2]:=by rw[hwx];exact Blk.new w 187 _
 have hsx:wx.heap.size=w.heap.size+1:=by rw[hwx];simp
 have kx2:Blk wy w.heap.size 187 #[.int .i64 fr,.int .i64 to2,.slice A2 n2 c2]:=by rw[hwy];exact kx.alloc _
 have ky:Blk wy (w.heap.size+1) 194 #[.int .i64 fr,.int .i64 to2]:=by rw[hwy,<-hsx];exact Blk.new wx 194 _
 have hxy:=h.calm hby;have y1:=hxy.c1;have z0:=ky.cell 0;have z1:=ky.cell 1;have hlk:=λn:Nat=>(hxy.map.only (D:=λ_=>False) ((Only.refl _ wy).drewN n) λe=>e).look fr to2 hxw.1 hxw.2
 unfold zIa at hlk;obtain⟨HM,HBY,HKX⟩:=uJ hxy.map hby kx2;rw[hwx]at hwy;have HWY:=uT hwy;have hgn:¬ g=w.heap.size:=λe=>by have:=h.blk.lt;omega
 have hgn1:¬ g=w.heap.size+1:=λe=>by have:=h.blk.lt;omega
 clear h hx hc hwx hwy hbx hby kx kx2 ky hxy hq hsx hrow h2 h2' h1;go_enter func84,ntmps84;go_wp2_with fail;refine HT.s.mono ?_;rintro _ _ ⟨rfl,rfl⟩;go_wp2_with fail;rw[<-HWY.s];clear d0 d1 d2 e0 e1;by_cases hold:(k:Int)<top fr to2
 ·have HF:=uT (show zHh (l.map (·.d)) top to2 k=(top,[],10)by rw[HS.s,if_pos hold]);generalize top fr to2=tt at hlk hold;go_quiet (fail);go_wp2_with fail;go_ret2;rw[HF.s];exact zMb HX.s (below_drewN HBY.s nq)
 ·have HF:=uT (show zHh (l.map (·.d)) top to2 k=(λf t=>if f=fr/\t=to2 then(k:Int)+1 else top f t,data,0)by rw[HS.s,if_neg hold]);have hold':top fr to2<=(k:Int):=by omega
  clear hold;generalize top fr to2=tt at hlk hold';go_quiet (fail);obtain⟨na,rfl⟩:=kB nq;go_wp2_with fail;refine bV 7 (by kernel_rfl) (by kernel_rfl) ?_;simp only[qX,jE,qZ,jL]
  repeat(go_big_quiet_step (fail))
  refine qF ?_;rintro _ ⟨nq2,rfl⟩;have hbn:uR w (wy.drewN (na+nq2)):=below_drewN HBY.s _;obtain⟨w5,hrun,hmap5,hg5⟩:=(HM.s.only (D:=λ_=>False) ((Only.refl _ wy).drewN (na+nq2)) λe=>e).store fr to2 ((k:Int)+1) hxw.1 hxw.2 (by have hmin:IntKind.i64.min= -9223372036854775808:=rfl;have hmax:IntKind.i64.max=9223372036854775807:=rfl;simp only[Lit.wf,qT,decide_eq_true_eq];omega) hm
  have hx5:=(HX.s.calm hbn).stored hmap5 hg5;have ho5:Only (λk=>k=b) w w5:=(Only.of_below hbn λx h1 h2=>by omega).grown hg5 λk hk _=>(by simpa using hk.symm)
  have hrow5:zOh ⟨⟨fr,to2,data⟩,A2,n2,c2⟩ w5 base:=bL HR.s ho5 (λk hk e=>zIn HR.s HX.s.map (by rw[hk,e]));have hne:¬ w.heap.size=b:=λe=>by have:=HX.s.map.lt;omega
  have k5:Blk w5 w.heap.size 187 #[.int .i64 fr,.int .i64 to2,.slice A2 n2 c2]:=(HKX.s.below (below_drewN (qC _ wy) (na+nq2)) HKX.s.lt).grown hg5 (λe=>hne (by simpa using e));have x2:=k5.cell 2;obtain⟨HCL,HX5,HO5⟩:=uJ (zSk A2 n2 c2 _ w5.heap.size w5 (zUv .u8 data) (by omega) (Reads.of_own hrow5) (qA _)) hx5 ho5;unfold zIa at hrun;clear hmap5 hg5 hx5 ho5 hrow5 k5 hbn;go_wp2_with fail;refine HCL.s.mono ?_;rintro _ w6 ⟨v6,rfl,ho6,hb6⟩;obtain⟨A6,c6,rfl,_⟩:=bE ho6;obtain⟨HO6,HB6⟩:=uI ho6 hb6;clear ho6 hb6;go_wp2_with fail;go_ret2;rw[HF.s];exact⟨A6,n2,c6,rfl,dU HO6.s HO5.s.size,HX5.s.calm HB6.s,HO5.s.calm HB6.s⟩
section
open Go.Maps (Keyed)
theorem yGi(w:World):(zeroValue 4).run prog w= .ok (.bool false) w:=by kernel_rfl
theorem lost_law:Keyed prog 3:=Maps.int_keyed underlying3
theorem zQb(n:Int)(h:(Lit.int .i64 n).wf=true):keyOf prog 3 (.int .i64 n)=some (.int .i64 n):=Maps.keyOf_int_mk underlying3 h
theorem zNp{v:Value}{z:DataW Unit×List MemPlace}(h:plainElem prog 4 v=some z):∃x,v= .bool x/\z=(.lit (.bool x),[]):=by unfold plainElem at h;rw[underlying4]at h;cases v<;>simp at h;exact⟨_,rfl,h.symm⟩
def LostMap(w:World)(b n:Nat)(top:Int->Bool):Prop:=
 ∃D:DataW Unit,w.ownsMap prog 3 (plainElem prog 4) b n D/\∀k,(Lit.int .i64 k).wf=true->D.atKey (.int .i64 k) (.lit (.bool false))= .lit (.bool (top k))
section
variable {w w':World}{b n:Nat}{top:Int->Bool}
theorem LostMap.made(w:World):LostMap (w.alloc (.map #[] 0)) w.heap.size 0 (λ_=>false):=
 ⟨.map [],World.ownsMap_made w _ _ _,λk _=>WideAt.atKey_none _ λp hp=>by cases hp⟩
theorem LostMap.lt(h:LostMap w b n top):b<w.heap.size:=by obtain⟨D,h,_⟩:=h;exact h.lt
theorem LostMap.only{D:Nat->Prop}(h:LostMap w b n top)(ho:Only D w w')(hn:¬ D b):LostMap w' b n top:=by have hlt:=h.lt;obtain⟨E,⟨es,clock,hb,r⟩,k⟩:=h;exact⟨E,⟨es,clock,(ho.block b hlt hn).trans hb,r⟩,k⟩
theorem LostMap.below(h:LostMap w b n top)(hb:uR w w'):LostMap w' b n top:=h.only (D:=λ_=>False) (Only.of_below hb λx h1 h2=>by omega) (λe=>e)
theorem LostMap.look(h:LostMap w b n top)(k:Int)(hf:(Lit.int .i64 k).wf=true):(Instr.lookup 70 (.map (some b)) (.int .i64 k) false).run prog w= .ok (.bool (top k)) w:=by obtain⟨D,h,hk⟩:=h;obtain⟨v,ps,hrun,hv⟩:=h.lookup lost_law underlying70 (yGi w) (plainElem_bool underlying4 false) (zQb k hf);obtain⟨x,rfl,hx⟩:=zNp hv;have h1:top k=x:=Lit.bool.inj (DataW.lit.inj ((hk k hf).symm.trans (Prod.mk.inj hx).1));exact hrun.trans (by rw[h1])
theorem LostMap.store(h:LostMap w b n top)(k:Int)(v:Bool)(hf:(Lit.int .i64 k).wf=true)(hn:n<maxLen):∃w',(Instr.mapUpdate 70 (.map (some b)) (.int .i64 k) (.bool v)).run prog w= .ok () w'/\LostMap w' b (n+1) (λj=>if j=k then v else top j)/\w.grownBy w' (some b):=by
 obtain⟨D,h,hk⟩:=h;obtain⟨w',hrun,hown,hg⟩:=h.update lost_law underlying70 hn (zQb k hf) (plainElem_bool underlying4 v);refine⟨w',hrun,⟨_,hown,λj hj=> ?_⟩,hg⟩;show _=DataW.lit (Lit.bool (if j=k then v else top j));by_cases he:j=k
 ·subst he;rw[if_pos rfl];exact Maps.atKey_put_same h.isMap (lost_law.key (zQb j hf)) _ _
 ·rw[if_neg he,Maps.atKey_put_other λe=>he ?_]
  ·exact hk j hj
  ·injection e
end
end
theorem zWi(w:World)(base:Nat):Calls prog 60 #[] w λe w'=>∃g b,e= .returned (.pointer (some ⟨g,0,none⟩))/\OfAt w' base g b (.slice none 0 0) [] 0 (λ_ _=>0)/\uR w w'/\w.heap.size<=g/\w.heap.size<=b:=by
 have hmm:= @run_makeMap prog;go_enter func60,ntmps60;go_wp2_with fail;go_ret;have hb1:uR w (w.alloc (.map #[] 0)):=(qC _ _).alloc (qA _) _;have hk:Blk ((w.alloc (.map #[] 0)).alloc (.cells #[.slice none 0 0,.map (some w.heap.size)] 168)) (w.heap.size+1) 168 #[.slice none 0 0,.map (some w.heap.size)]:=by have h:=Blk.new (w.alloc (.map #[] 0)) 168 #[.slice none 0 0,.map (some w.heap.size)];simpa using h
 exact⟨w.heap.size+1,w.heap.size,rfl,⟨hk,qH _ _ _ _,(λp hp=>by cases hp),(WayMap.made w).below ((qC _ _).alloc (qA _) _),(λp hp=>by cases hp)⟩,hb1.alloc (by simp) _,jF _,qA _⟩
end Go.Proofs.YtbolcebmbpepdaaGreatDoor
