/- Contracts. Conditions: those each states. -/
import Derived.Test.YtbolcebmbpepdaaGreatDoorM19
import Derived.Test.YtbolcebmbpepdaaGreatDoorM06
import Derived.Test.YtbolcebmbpepdaaGreatDoorM21
import Derived.Test.YtbolcebmbpepdaaGreatDoorM10
namespace Go.Proofs.YtbolcebmbpepdaaGreatDoor
set_option maxRecDepth 100000
set_option maxHeartbeats 8000000
set_option linter.all false
open Go.RowKit Tryz
structure WS where
 sh:Nat->Nat->Shf
 ask:Nat->List Int
 gn:Nat->List Int
 st:Nat->List (List Ent)
 bk:Nat->BkS
 lts:List PoD
 top:Int->Int->Int
 lost:Int->Bool
structure StpI where
 kind:Int
 who:Int
 item:Int
 count:Int
 life:Int
 id:Int
 label:Int
 key:Int
def StpI.cells(s:StpI):List Value:=[.int .i64 s.kind,.int .i64 s.who,.int .i64 s.item,.int .i64 s.count,.int .i64 s.life,.int .i64 s.id,.int .i64 s.label,.int .i64 s.key]
theorem StpI.cells_len(s:StpI):s.cells.length=8:=rfl
theorem zLp(s:StpI):(#[.int .i64 s.kind,.int .i64 s.who,.int .i64 s.item,.int .i64 s.count,.int .i64 s.life,.int .i64 s.id,.int .i64 s.label,.int .i64 s.key]:Array Value)=s.cells.toArray:=rfl
def StpI.val(s:StpI):Value:= .agg #[.int .i64 s.kind,.int .i64 s.who,.int .i64 s.item,.int .i64 s.count,.int .i64 s.life,.int .i64 s.id,.int .i64 s.label,.int .i64 s.key]
def bN{α:Type}(f:Nat->α)(i:Nat)(x:α):Nat->α:=λj=>if j=i then x else f j
theorem zBq{α:Type}(f:Nat->α)(i:Nat)(x:α)(j:Nat):bN f i x j=if j=i then x else f j:=rfl
theorem dD{α:Type}(f:Nat->α)(i:Nat)(x:α):bN f i x i=x:=by simp[bN]
theorem cQ{α:Type}(f:Nat->α){i j:Nat}(x:α)(h:j≠i):bN f i x j=f j:=by simp[bN,h]
theorem zNu{α:Type}(f:Nat->α)(i:Nat):bN f i (f i)=f:=by funext j;unfold bN;split<;>simp_all
theorem zVr{α:Type}(f:Nat->α)(i:Nat)(x y:α):bN (bN f i x) i y=bN f i y:=by funext j;unfold bN;split<;>rfl
def Cfg.n(c:Cfg):Nat:=c.br.toNat
def Cfg.m(c:Cfg):Nat:=c.mi.zs.length
def Cfg.ln(c:Cfg):Nat:=c.la.zs.length
def bY(code who:Int):zCl:=⟨code,who,Stk.none,0,[],[],[]⟩
def zGw:Nat->List PoD->List Envl
 |_,[]=>[]
 |k,p::l=>⟨k,p.fr,p.to_,p.data.length⟩::zGw (k+1) l
theorem zPx:∀(l:List PoD) (k:Nat),(zGw k l).length=l.length
 |[],_=>rfl
 |_::l,k=>by rw[zGw,jG,jG,zPx l]
theorem zOx:∀(a b:List PoD) (k:Nat),zGw k (a++b)=zGw k a++zGw (k+a.length) b
 |[],b,k=>rfl
 |p::a,b,k=>by rw[List.cons_append,zGw,zGw,zOx a b,List.cons_append,jG,Nat.add_right_comm,Nat.add_assoc]
def WS.posts(S:WS)(l:List PoD):WS:={S with lts:=S.lts++l}
def zEe:Ordr:=⟨7,0,0,0⟩
def WS.aged(S:WS):WS:={S with sh:=λi k=>((S.sh i k).does zEe).1}
def zAv(c:Cfg)(S:WS)(i:Nat)(k:Nat):List PoD:=((List.range k).filter λj=> !(j==i)).map λj:Nat=>⟨(i:Int),(j:Int),(bT c i j (S.st i)).1⟩
def zOi(c:Cfg)(S:WS)(i:Nat):List PoD:=⟨i,c.n,(fQ c (S.ask i)).1⟩::zAv c S i c.n
def cA(c:Cfg)(S:WS)(k:Nat):List PoD:=(List.range k).flatMap (zOi c S)
def zIp(c:Cfg)(S:WS)(j:Nat):List Int:=(fR c.cap c.tk (S.bk j)).2.1
def zBt(c:Cfg)(S:WS)(j:Nat):Int:=(fR c.cap c.tk (S.bk j)).2.2
def dJ(c:Cfg)(S:WS)(k:Nat):List Int:=(List.range k).filterMap λj=>if 0<=zBt c S j then some (zBt c S j)else none
def fO(c:Cfg)(S:WS)(k who:Nat):List Int:=(List.range k).map λj=>(zIp c S j).getD who 0
def WS.rounds(c:Cfg)(S:WS)(k:Nat):WS:={S with bk:=λj=>if j<k then(fR c.cap c.tk (S.bk j)).1 else S.bk j}
def dW(c:Cfg)(S:WS)(k:Nat):List PoD:=(List.range k).map λi:Nat=>⟨(c.n:Int),(i:Int),(fQ c (fO c S c.m i)).1⟩
def zGs(c:Cfg)(S:WS):zCl×WS:=
 (⟨0,0,Stk.none,0,zGw S.lts.length (cA c S.aged c.n++dW c S c.n),[],dJ c S c.m⟩,(S.aged.rounds c c.m).posts (cA c S.aged c.n++dW c S c.n))
def WS.to_(S:WS)(id:Int):Int:=toP S.lts id
def gD(S:WS)(id:Int):Int:=
 if S.to_ id<0 then 6 else match S.lts[id.toNat]? with
  |none=>6
  |some p=>if S.lost id||decide (id<S.top p.fr p.to_)then 10 else 0
def WS.lose(S:WS)(id:Int):WS:={S with lost:=λk=>if k=id then true else S.lost k}
def WS.wants(S:WS)(fr:Nat)(l:List Int)(k:Nat):WS:={S with bk:=λj=>if j<k then zCs (S.bk j) fr (l.getD j 0)else S.bk j}
def gnAt(S:WS)(i:Nat)(l:List Int)(k:Nat):WS:=
 if(S.gn i).getD k 0<l.getD k 0 then{S with sh:=bN S.sh i (bN (S.sh i) k ((S.sh i k).does ⟨1,l.getD k 0-(S.gn i).getD k 0,0,0⟩).1),gn:=bN S.gn i ((S.gn i).set k (l.getD k 0))}else S
def dH(i:Nat)(l:List Int):Nat->WS->WS
 |0,S=>S
 |k+1,S=>gnAt (dH i l k S) i l k
def zBd(R:List (List Ent)):Nat->List (List Ent)->List (List Ent)
 |0,q=>q
 |k+1,q=>(zBd R k q).set k (dY ((zBd R k q).getD k []) (R.getD k [])).1
def WS.learns(S:WS)(i:Nat)(R:List (List Ent))(k:Nat):WS:={S with st:=bN S.st i (zBd R k (S.st i))}
def zAt(c:Cfg)(S:WS)(p:PoD):WS:=
 if p.to_=c.br then S.wants p.fr.toNat (dA c p.data).1 (dA c p.data).1.length
 else if p.fr=c.br then dH p.to_.toNat (dA c p.data).1 (dA c p.data).1.length S
 else S.learns p.to_.toNat (dI c p.fr p.to_ p.data).1 (dI c p.fr p.to_ p.data).1.length
def WS.opened(S:WS)(p:PoD)(id:Int):WS:={S with top:=λf t=>if f=p.fr/\t=p.to_ then id+1 else S.top f t}
def fZ(c:Cfg)(S:WS)(id:Int):zCl×WS:=
 if gD S id=6 then(bY 6 0,S)
 else match S.lts[id.toNat]? with
  |none=>(bY 6 0,S)
  |some p=>if gD S id≠0 then(bY (gD S id) p.to_,S)else(⟨0,p.to_,Stk.none,0,[],p.data,[]⟩,zAt c (S.opened p id) p)
def fK(c:Cfg)(S:WS)(s:StpI)(i:Nat):zCl×WS:=
 if s.label<0\/(c.ln:Int)<=s.label\/s.key<0\/8<=s.key\/(s.kind=7/\(s.count<0\/255<s.count))then(bY 2 i,S)
 else if((c.la.zs.getD s.label.toNat 0).toNat.testBit i)=false then(bY 11 i,S)
 else if s.kind=7 then(bY 0 i,{S with st:=bN S.st i ((S.st i).set s.label.toNat (zFm ((S.st i).getD s.label.toNat []) i s.key s.count false))})
 else if(zAn ((S.st i).getD s.label.toNat []) s.key).2=false then(bY 6 i,S)
 else(⟨0,i,Stk.none,(zAn ((S.st i).getD s.label.toNat []) s.key).1.value,[],[],[]⟩,S)
def fF(c:Cfg)(S:WS)(s:StpI)(i:Nat):zCl×WS:=
 if s.kind=7\/s.kind=8 then fK c S s i
 else if s.item<0\/(c.m:Int)<=s.item then(bY 2 i,S)
 else if s.kind=1 then
  (if s.count<1\/1048576<s.count then(bY 2 i,S)
   else if 1048576<(S.ask i).getD s.item.toNat 0+s.count then(bY 12 i,S)
   else(bY 0 i,{S with ask:=bN S.ask i ((S.ask i).set s.item.toNat ((S.ask i).getD s.item.toNat 0+s.count))}))
 else
  let r:=(S.sh i s.item.toNat).does ⟨s.kind,s.count,s.life,s.id⟩
  (⟨r.2.code,i,{r.2 with code:=0},0,[],[],[]⟩,{S with sh:=bN S.sh i (bN (S.sh i) s.item.toNat r.1)})
def stepW(c:Cfg)(S:WS)(s:StpI):zCl×WS:=
 if s.kind=9 then zGs c S
 else if s.kind=10 then fZ c S s.id
 else if s.kind=11 then(if gD S s.id=0 then(bY 0 0,S.lose s.id)else(bY (gD S s.id) 0,S))
 else if s.kind<1\/11<s.kind then(bY 3 0,S)
 else if s.who<0\/c.br<=s.who then(bY 2 0,S)
 else fF c S s s.who.toNat
def WS.new(c:Cfg):WS where
 sh:=λ_ _=>Shf.new
 ask:=λ_=>List.replicate c.m 0
 gn:=λ_=>List.replicate c.m 0
 st:=λ_=>List.replicate c.ln []
 bk:=λj=>if j<c.m then zCr (BkS.new c.n) (c.mi.zs.getD j 0)else BkS.new c.n
 lts:=[]
 top:=λ_ _=>0
 lost:=λ_=>false
def zAh(c:Cfg):List StpI->WS->List zCl×WS
 |[],S=>([],S)
 |s::l,S=>((stepW c S s).1::(zAh c l (stepW c S s).2).1,(zAh c l (stepW c S s).2).2)
theorem zVg(c:Cfg)(s:StpI):∀(l:List StpI) (S:WS),zAh c (l++[s]) S=((zAh c l S).1++[(stepW c (zAh c l S).2 s).1],(stepW c (zAh c l S).2 s).2)
 |[],S=>rfl
 |x::l,S=>by rw[List.cons_append,zAh,zVg c s l,zAh];rfl
theorem zXg(c:Cfg):∀(l:List StpI) (S:WS),(zAh c l S).1.length=l.length
 |[],_=>rfl
 |x::l,S=>by rw[zAh,jG,zXg c l,jG]
inductive Tag where
 |no
 |con
 |sh (i:Nat)
 |ask (i:Nat)
 |gn (i:Nat)
 |str (i:Nat)
 |bk (j:Nat)
 |off
 |lst
deriving DecidableEq
structure BrA where
 b:Nat
 s:Nat
 a:Nat
 g:Nat
 t:Nat
structure Lay where
 hb:Nat
 bb:Nat
 bc:Nat
 kb:Nat
 kc:Nat
 og:Nat
 ob:Nat
 lb:Nat
 br:Nat->BrA
 bg:Nat->Nat
structure ConAt(w:World)(c:Cfg)(y:Lay)(own:Nat->Prop):Prop where
 blk:Blk w y.hb 72 #[.int .i64 c.br,.slice c.la.A c.la.n c.la.c,.int .i64 c.tk,.slice c.mi.A c.mi.n c.mi.c,.int .i64 c.cap,.slice (some ⟨y.bb,0,none⟩) c.n y.bc,.slice (some ⟨y.kb,0,none⟩) c.m y.kc,.pointer (some ⟨y.og,0,none⟩),.map (some y.lb)]
 row:∃cs,Blk w y.bb 76 cs/\∀i,i<c.n->cs[i]? =some (.pointer (some ⟨(y.br i).b,0,none⟩))
 bks:∃cs,Blk w y.kb 73 cs/\∀j,j<c.m->cs[j]? =some (.pointer (some ⟨y.bg j,0,none⟩))
 brs:∀i,i<c.n->Blk w (y.br i).b 81 #[.slice (some ⟨(y.br i).s,0,none⟩) c.m c.m,.slice (some ⟨(y.br i).a,0,none⟩) c.m c.m,.slice (some ⟨(y.br i).g,0,none⟩) c.m c.m,.slice (some ⟨(y.br i).t,0,none⟩) c.ln c.ln]
 o1:own y.hb
 o2:own y.bb
 o3:own y.kb
 o4:∀i,i<c.n->own (y.br i).b
structure ShRow(w:World)(base g m:Nat)(f:Nat->Shf)(own:Nat->Prop):Prop where
 at_:∃cs,∃vs:Nat->Value,(∀k,k<m->ShAt w base g (k*4) cs (f k) (vs k)/\∀b,(vs k).ownBlock=some b->own b)/\∀k k',k<m->k'<m->k≠k'->∀b,(vs k).ownBlock=some b->(vs k').ownBlock≠some b
 o:own g
structure NumRow(w:World)(base g:Nat)(zs:List Int)(own:Nat->Prop):Prop where
 row:IRow w g zs []
 low:base<=g
 o:own g
structure StRow(w:World)(base g:Nat)(q:List (List Ent))(own:Nat->Prop):Prop where
 at_:∃SS:List EnR,StoreAt w base g SS/\SS.map EnR.es=q/\∀r∈SS,∀b,r.val.ownBlock=some b->own b
 o:own g
structure BkRow(w:World)(base g nb:Nat)(most ticks:Int)(s:BkS)(own:Nat->Prop):Prop where
 at_:∃p:BkL,p.g=g/\BkAt w base nb p most ticks s/\∀k,p.has k->own k
structure OfRow(w:World)(base g b:Nat)(l:List PoD)(top:Int->Int->Int)(K:Nat)(own:Nat->Prop):Prop where
 at_:∃v ps m,OfAt w base g b v ps m top/\m<=K/\ps.map (·.d)=l/\(∀p∈ps,p.n<=1000000/\∀k,(Value.slice p.A p.n p.c).ownBlock=some k->own k)/\∀k,v.ownBlock=some k->own k
 o1:own g
 o2:own b
structure LsRow(w:World)(b:Nat)(lost:Int->Bool)(K:Nat)(own:Nat->Prop):Prop where
 at_:∃m,LostMap w b m lost/\m<=K
 o:own b
section
variable {w w':World}{base:Nat}{own own' D:Nat->Prop}
theorem ConAt.only{c:Cfg}{y:Lay}(h:ConAt w c y own)(ho:Only D w w')(hD:∀k,k<w.heap.size->own k->¬ D k)(hw:∀k,k<w.heap.size->own k->own' k):ConAt w' c y own':=by obtain⟨h1,⟨cs,h2,h3⟩,⟨ds,h4,h5⟩,h6,o1,o2,o3,o4⟩:=h;exact⟨h1.only ho (hD _ h1.lt o1),⟨cs,h2.only ho (hD _ h2.lt o2),h3⟩,⟨ds,h4.only ho (hD _ h4.lt o3),h5⟩,λi hi=>(h6 i hi).only ho (hD _ (h6 i hi).lt (o4 i hi)),hw _ h1.lt o1,hw _ h2.lt o2,hw _ h4.lt o3,λi hi=>hw _ (h6 i hi).lt (o4 i hi)⟩
theorem ShRow.only{g m:Nat}{f:Nat->Shf}(h:ShRow w base g m f own)(hm:0<m)(ho:Only D w w')(hD:∀k,k<w.heap.size->own k->¬ D k)(hw:∀k,k<w.heap.size->own k->own' k):ShRow w' base g m f own':=by obtain⟨⟨cs,vs,h1,h2⟩,o⟩:=h;have hg:=(h1 0 hm).1.blk.lt;refine⟨⟨cs,vs,λk hk=> ?_,h2⟩,hw _ hg o⟩;obtain⟨h3,h4⟩:=h1 k hk;exact⟨h3.only ho (hD _ hg o) (λb hb=>hD _ (h3.own.lt b hb).2 (h4 b hb)),λb hb=>hw _ (h3.own.lt b hb).2 (h4 b hb)⟩
theorem NumRow.only{g:Nat}{zs:List Int}(h:NumRow w base g zs own)(ho:Only D w w')(hD:∀k,k<w.heap.size->own k->¬ D k)(hw:∀k,k<w.heap.size->own k->own' k):NumRow w' base g zs own':=
 ⟨Blk.only h.row ho (hD _ (Blk.lt h.row) h.o),h.low,hw _ (Blk.lt h.row) h.o⟩
theorem StRow.only{g:Nat}{q:List (List Ent)}(h:StRow w base g q own)(ho:Only D w w')(hD:∀k,k<w.heap.size->own k->¬ D k)(hw:∀k,k<w.heap.size->own k->own' k):StRow w' base g q own':=by obtain⟨⟨SS,h1,h2,h3⟩,o⟩:=h;exact⟨⟨SS,h1.only ho (hD _ h1.blk.lt o) (λr hr b hb=>hD _ ((h1.rows r hr).lt b hb).2 (h3 r hr b hb)),h2,λr hr b hb=>hw _ ((h1.rows r hr).lt b hb).2 (h3 r hr b hb)⟩,hw _ h1.blk.lt o⟩
theorem BkRow.only{g nb:Nat}{most ticks:Int}{s:BkS}(h:BkRow w base g nb most ticks s own)(ho:Only D w w')(hD:∀k,k<w.heap.size->own k->¬ D k)(hw:∀k,k<w.heap.size->own k->own' k):BkRow w' base g nb most ticks s own':=by obtain⟨p,h1,h2,h3⟩:=h.at_;exact⟨⟨p,h1,h2.only ho (λk hk=>hD _ (h2.lt k hk) (h3 k hk)),λk hk=>hw _ (h2.lt k hk) (h3 k hk)⟩⟩
theorem OfRow.only{g b K:Nat}{l:List PoD}{top:Int->Int->Int}(h:OfRow w base g b l top K own)(ho:Only D w w')(hD:∀k,k<w.heap.size->own k->¬ D k)(hw:∀k,k<w.heap.size->own k->own' k):OfRow w' base g b l top K own':=by
 obtain⟨⟨v,ps,m,h1,h2,h3,h4,h5⟩,o1,o2⟩:=h;exact⟨⟨v,ps,m,h1.only ho (hD _ h1.blk.lt o1) (hD _ h1.map.lt o2) (λk hk=>hD _ (h1.own.lt k hk).2 (h5 k hk)) (λp hp k hk=>hD _ ((h1.rows p hp).lt k hk).2 ((h4 p hp).2 k hk)),h2,h3,
  λp hp=>⟨(h4 p hp).1,λk hk=>hw _ ((h1.rows p hp).lt k hk).2 ((h4 p hp).2 k hk)⟩,λk hk=>hw _ (h1.own.lt k hk).2 (h5 k hk)⟩,hw _ h1.blk.lt o1,hw _ h1.map.lt o2⟩
theorem LsRow.only{b K:Nat}{lost:Int->Bool}(h:LsRow w b lost K own)(ho:Only D w w')(hD:∀k,k<w.heap.size->own k->¬ D k)(hw:∀k,k<w.heap.size->own k->own' k):LsRow w' b lost K own':=by obtain⟨⟨m,h1,h2⟩,o⟩:=h;exact⟨⟨m,h1.only ho (hD _ h1.lt o),h2⟩,hw _ h1.lt o⟩
end
def Pc(c:Cfg)(y:Lay)(S:WS)(K base:Nat):Tag->World->(Nat->Prop)->Prop
 | .no,_,_=>True
 | .con,w,own=>ConAt w c y own
 | .sh i,w,own=>i<c.n->ShRow w base (y.br i).s c.m (S.sh i) own
 | .ask i,w,own=>i<c.n->NumRow w base (y.br i).a (S.ask i) own
 | .gn i,w,own=>i<c.n->NumRow w base (y.br i).g (S.gn i) own
 | .str i,w,own=>i<c.n->StRow w base (y.br i).t (S.st i) own
 | .bk j,w,own=>j<c.m->BkRow w base (y.bg j) c.n c.cap c.tk (S.bk j) own
 | .off,w,own=>OfRow w base y.og y.ob S.lts S.top K own
 | .lst,w,own=>LsRow w y.lb S.lost K own
theorem Pc.only{c:Cfg}{y:Lay}{S:WS}{K base:Nat}{w w':World}{own own' D:Nat->Prop}(hm:0<c.m)(t:Tag)(h:Pc c y S K base t w own)(ho:Only D w w')(hD:∀k,k<w.heap.size->own k->¬ D k)(hw:∀k,k<w.heap.size->own k->own' k):Pc c y S K base t w' own':=by
 cases t with
 |no=>trivial
 |con=>exact ConAt.only h ho hD hw
 |sh i=>exact λhi=>(h hi).only hm ho hD hw
 |ask i=>exact λhi=>(h hi).only ho hD hw
 |gn i=>exact λhi=>(h hi).only ho hD hw
 |str i=>exact λhi=>(h hi).only ho hD hw
 |bk j=>exact λhj=>(h hj).only ho hD hw
 |off=>exact OfRow.only h ho hD hw
 |lst=>exact LsRow.only h ho hD hw
structure PW(w:World)(c:Cfg)(y:Lay)(S:WS)(K base:Nat)(ow:Nat->Tag):Prop where
 pc:∀t,Pc c y S K base t w (λk=>ow k=t)
 low:∀k,ow k≠ .no->base<=k
 fresh:∀k,w.heap.size<=k->ow k= .no
 cfg:c.ok w base
 may:bG c=true
 bw:base<=w.heap.size
theorem bK{c:Cfg}(h:bG c=true):(c.br=c.n/\1<=c.n/\c.n<=8)/\c.ln<=4/\(1<=c.tk/\c.tk<=8)/\(1<=c.m/\c.m<=3)/\(0<=c.cap/\c.cap<=1048576)/\(∀z∈c.la.zs,0<=z/\z<2^c.n)/\∀z∈c.mi.zs,0<=z/\z<=1048576:=by
 unfold bG inB at h;simp only[qT,decide_eq_true_eq,Bool.not_eq_true',List.any_eq_false]at h;obtain⟨⟨⟨⟨⟨⟨h1,h2⟩,h3⟩,h4⟩,h5⟩,h6⟩,h7⟩:=h;refine⟨by unfold Cfg.n;omega,h2,h3,by unfold Cfg.m;omega,h5,λz hz=> ?_,λz hz=> ?_⟩
 ·have:=h6 z hz;unfold zAg at this;simp only[Bool.or_eq_true,decide_eq_true_eq,not_or]at this;unfold Cfg.n;omega
 ·have:=h7 z hz;unfold gY at this;simp only[Bool.or_eq_true,decide_eq_true_eq,not_or]at this;omega
section
variable {w w':World}{c:Cfg}{y:Lay}{S S':WS}{K K' base:Nat}{ow ow':Nat->Tag}{D:Nat->Prop}
theorem PW.m0(h:PW w c y S K base ow):0<c.m:=(bK h.may).2.2.2.1.1
theorem PW.far(h:PW w c y S K base ow)(ho:Only D w w')(hD:∀k,k<w.heap.size->D k->ow k= .no)(hDb:∀k,k<base->¬ D k):PW w' c y S K base ow:=by
 refine⟨λt=> ?_,h.low,λk hk=>h.fresh k (qN ho.size hk),h.cfg.below (ho.to_below (λx hx _=>hDb x hx) h.bw),h.may,qN h.bw ho.size⟩;cases t with
 |no=>trivial
 |_=>exact Pc.only h.m0 _ (h.pc _) ho (λk hk hk2 hk3=>by have:=hD k hk hk3;rw[this]at hk2;cases hk2) (λk _ hk=>hk)
theorem PW.calm(h:PW w c y S K base ow)(hb:uR w w'):PW w' c y S K base ow:=
 h.far (D:=λk=>w.heap.size<=k) (Only.of_below hb λ_ _ h=>h) (λk hk hk2=>by omega) (λk hk hk2=>by have:=h.bw;omega)
def zAa(ow:Nat->Tag)(w w':World)(t:Tag)(F:Nat->Bool)(k:Nat):Tag:=if k<w.heap.size then ow k else if k<w'.heap.size/\F k=true then t else .no
theorem PW.turn(t:Tag)(F:Nat->Bool)(h:PW w c y S K base ow)(ht:t≠ .no)(ho:Only D w w')(hD:∀k,k<w.heap.size->D k->ow k=t)(hS:∀u,u≠t->∀W own,Pc c y S K base u W own->Pc c y S' K' base u W own)(hn:Pc c y S' K' base t w' λk=>zAa ow w w' t F k=t):PW w' c y S' K' base (zAa ow w w' t F):=by
 refine⟨λu=> ?_,λk hk=> ?_,λk hk=> ?_,h.cfg.below (ho.to_below (λx hx hx2 hx3=> ?_) h.bw),h.may,qN h.bw ho.size⟩
 ·by_cases hu:u=t
  ·subst hu;exact hn
  ·refine hS u hu _ _ (Pc.only h.m0 u (h.pc u) ho (λk hk h1 h2=>hu ?_) λk hk h1=> ?_)
   ·rw[<-h1,hD k hk h2]
   ·show zAa ow w w' t F k=u;unfold zAa;rw[if_pos hk];exact h1
 ·unfold zAa at hk
  split at hk
  ·exact h.low k hk
  ·have:=h.bw;omega
 ·unfold zAa;have:=ho.size;rw[if_neg (by omega),if_neg (by omega)]
 ·have:=h.low x (by rw[hD x hx2 hx3];exact ht);omega
structure Kept(w w':World)(ow ow':Nat->Tag):Prop where
 only:Only (λk=>ow k≠ .no) w w'
 old:∀k,k<w.heap.size->ow' k=ow k
theorem Kept.refl(w:World)(ow:Nat->Tag):Kept w w ow ow:=⟨Only.refl _ _,λ_ _=>rfl⟩
theorem Kept.trans{w'':World}{ow'':Nat->Tag}(h:Kept w w' ow ow')(k:Kept w' w'' ow' ow''):Kept w w'' ow ow'':=
 ⟨h.only.trans k.only (λx hx hx2=>by rw[<-h.old x hx];exact hx2),λx hx=>(k.old x (jQ hx h.only.size)).trans (h.old x hx)⟩
theorem Kept.calm(hb:uR w w'):Kept w w' ow ow:=⟨Only.of_below hb (λx h1 h2=>by omega),λ_ _=>rfl⟩
theorem Kept.turn(t:Tag)(F:Nat->Bool)(ht:t≠ .no)(ho:Only D w w')(hD:∀k,k<w.heap.size->D k->ow k=t):Kept w w' ow (zAa ow w w' t F):=
 ⟨ho.mono λx hx hd=>by rw[hD x hx hd];exact ht,λk hk=>by unfold zAa;rw[if_pos hk]⟩
theorem Kept.below(h:Kept w w' ow ow')(hw:PW w c y S K base ow):Below base w w':=h.only.to_below (λx hx hx2 hx3=>by have:=hw.low x hx3;omega) hw.bw
theorem Kept.own(h:Kept w w' ow ow'){b e size n:Nat}{v:Value}{xs:List Value}(hv:w.ownsRow b e size v n xs)(hn:∀k,v.ownBlock=some k->ow k= .no):w'.ownsRow b e size v n xs:=
 bL hv h.only (λk hk hk2=>hk2 (hn k hk))
theorem Kept.blk(h:Kept w w' ow ow'){g:Nat}{t:TypeId}{cs:Array Value}(hv:Blk w g t cs)(hn:ow g= .no):Blk w' g t cs:=hv.only h.only (λhk2=>hk2 hn)
end
theorem zQh:∀(b a:List Ent) (z:Ent),z∈b.foldl gI a->z∈a\/z∈b
 |[],a,z,h=>Or.inl h
 |y::b,a,z,h=>by
  rcases zQh b (gI a y) z h with h|h
  ·rcases zQd a y z h with h|h
   ·exact Or.inl h
   ·exact Or.inr (by simp[h])
  ·exact Or.inr (by simp[h])
theorem mayP_mk{l:List Ent}(h1:∀x∈l,gJ x=true)(h2:zBa l)(h3:l.length<=8):bU l=true:=by unfold bU;rw[zNn l none h1 h2 λq hq=>by cases hq];simpa using h3
theorem zJt(a b:List Ent):bU (dY a b).1=true:=by
 unfold dY
 split
 ·rename_i h;rw[qT]at h
  split
  ·rfl
  ·rename_i h8;obtain⟨sa,ka,_,oa⟩:=gX h.1;obtain⟨_,kb,_,ob⟩:=gX h.2;refine mayP_mk (λx hx=> ?_) (zRa b kb a sa ka).1 (by dsimp only;omega);rcases zQh b a x hx with h|h
   ·exact oa x h
   ·exact ob x h
 ·rfl
theorem yFu{l:List Ent}(h:bU l=true):∀e∈l,0<=e.time/\e.time<=2000000:=λe he=>by have:=(zFz ((gX h).2.2.2 e he)).2.2.1;omega
theorem packP_u8(fs:List (Int×Int)):∀z∈(gM fs).1,0<=z/\z<=255:=by
 intro z hz;unfold gM at hz
 split at hz
 ·cases hz
 split at hz
 ·unfold bytesOf at hz;obtain⟨i,_,rfl⟩:=jC.1 hz;have:=zDl (bH fs) (zBw _) i;omega
 ·cases hz
theorem zYc(c:Cfg)(zs:List Int):∀z∈(fQ c zs).1,0<=z/\z<=255:=by
 unfold fQ;intro z hz
 split at hz
 ·cases hz
 split at hz
 ·cases hz
 split at hz
 ·cases hz
 ·exact packP_u8 _ z hz
theorem rumP_u8(c:Cfg)(a b:Int)(rows:List (List Ent)):∀z∈(bT c a b rows).1,0<=z/\z<=255:=by
 intro z hz;unfold bT at hz
 split at hz
 ·cases hz
 split at hz
 ·cases hz
 split at hz
 ·cases hz
 split at hz
 ·cases hz
 split at hz
 ·cases hz
 ·unfold bytesOf at hz;obtain⟨i,_,rfl⟩:=jC.1 hz;have:=zDl (bH (dS rows (bM a.toNat b.toNat c.la.zs 0))) (zBw _) i;omega
theorem zZb(bs:List Int):∀(ws:List Int) (a:Nat),∀z∈zAu bs ws a,0<=z
 |[],a,z,h=>by cases h
 |y::ws,a,z,h=>by
  rw[zAu,jD]at h;rcases h with rfl|h
  ·omega
  ·exact zZb bs ws _ z h
theorem zFd(c:Cfg)(bs:List Int):(∀z∈(dA c bs).1,0<=z/\z<=1048576)/\((dA c bs).1.length=0\/(dA c bs).1.length=c.m):=by
 unfold dA
 split
 ·exact⟨λz hz=>(by cases hz),Or.inl rfl⟩
 split
 ·exact⟨λz hz=>(by cases hz),Or.inl rfl⟩
 split
 ·exact⟨λz hz=>(by cases hz),Or.inl rfl⟩
 ·rename_i h1 h2 h3;refine⟨λz hz=> ?_,Or.inr ?_⟩
  ·have h4:zAd z=false:=by
    cases hb:zAd z with
    |false=>rfl
    |true=>exact absurd (List.any_eq_true.2 ⟨z,hz,hb⟩) h3
   have h5:0<=z:=by
    dsimp only at hz;unfold dE at hz
    split at hz
    ·cases hz
    split at hz
    ·cases hz
    split at hz
    ·exact zZb _ _ _ z hz
    ·cases hz
   simp[zAd]at h4;omega
  ·dsimp only;rw[zKg _ _ (by simpa using h2),jB];rfl
theorem yEv(c:Cfg)(a b:Int)(bs:List Int):(dI c a b bs).1.length=0\/(dI c a b bs).1.length=c.ln:=by
 unfold dI
 split
 ·exact Or.inl rfl
 split
 ·exact Or.inl rfl
 split
 ·exact Or.inl rfl
 split
 ·exact Or.inr (zBx _ _ _ _)
 ·exact Or.inl rfl
structure WS.ok(S:WS)(c:Cfg)(K:Nat):Prop where
 sh:∀i k,(S.sh i k).ok K
 ask:∀i,(S.ask i).length=c.m/\∀z∈S.ask i,0<=z/\z<=1048576
 gn:∀i,(S.gn i).length=c.m/\∀z∈S.gn i,0<=z/\z<=1048576
 st:∀i,(S.st i).length=c.ln/\∀q∈S.st i,bU q=true
 bk:∀j,(S.bk j).ok c.n K
 len:S.lts.length<=72*K
 lts:∀p∈S.lts,(0<=p.fr/\p.fr<=c.n)/\(0<=p.to_/\p.to_<=c.n)/\(∀z∈p.data,0<=z/\z<=255)/\(p.fr=c.n->p.to_<c.n)
theorem zQe{s:Shf}{K L:Int}(h:s.ok K)(hL:K<=L):s.ok L:={h with madeK:=Int.le_trans h.madeK hL}
theorem WS.ok.more{S:WS}{c:Cfg}{K L:Nat}(h:S.ok c K)(hL:K<=L):S.ok c L:=
 {h with sh:=λi k=>zQe (h.sh i k) (by omega),bk:=λj=>zSu (h.bk j) (by omega),len:=by have:=h.len;omega}
theorem zSt{s:Shf}{K:Int}(h:s.ok K)(o:Ordr):(s.does o).1.ok (K+1):=zXn h o
theorem zSb{l:List Int}{m:Nat}(h:l.length=m/\∀z∈l,0<=z/\z<=1048576)(k:Nat)(x:Int)(hx:0<=x/\x<=1048576):(l.set k x).length=m/\∀z∈l.set k x,0<=z/\z<=1048576:=
 ⟨by rw[List.length_set];exact h.1,λz hz=>by
  rcases jO hz with hz|rfl
  ·exact h.2 z hz
  ·exact hx⟩
theorem zHl{l:List Int}(h:∀z∈l,0<=z/\z<=1048576)(k:Nat):0<=l.getD k 0/\l.getD k 0<=1048576:=by
 rw[qG];cases hk:l[k]? with
 |none=>simp
 |some x=>exact h x (qB hk)
theorem sends_ok{c:Cfg}{S:WS}{k:Nat}(hk:k<=c.n):∀p∈cA c S k,(0<=p.fr/\p.fr<=c.n)/\(0<=p.to_/\p.to_<=c.n)/\(∀z∈p.data,0<=z/\z<=255)/\(p.fr=c.n->p.to_<c.n):=by
 intro p hp;unfold cA at hp;obtain⟨i,hi,hp⟩:=List.mem_flatMap.1 hp;have hi':=jZ.1 hi;unfold zOi at hp;rcases jD.1 hp with rfl|hp
 ·exact⟨by dsimp only;omega,by dsimp only;omega,zYc _ _,λh=>by dsimp only at h;omega⟩
 ·unfold zAv at hp;obtain⟨j,hj,rfl⟩:=jC.1 hp;have hj':=jZ.1 (List.mem_filter.1 hj).1;exact⟨by dsimp only;omega,by dsimp only;omega,rumP_u8 _ _ _ _,λh=>by dsimp only at h;omega⟩
theorem yFt{c:Cfg}{S:WS}{k:Nat}(hk:k<=c.n):∀p∈dW c S k,(0<=p.fr/\p.fr<=c.n)/\(0<=p.to_/\p.to_<=c.n)/\(∀z∈p.data,0<=z/\z<=255)/\(p.fr=c.n->p.to_<c.n):=by intro p hp;unfold dW at hp;obtain⟨i,hi,rfl⟩:=jC.1 hp;have hi':=jZ.1 hi;exact⟨by dsimp only;omega,by dsimp only;omega,zYc _ _,λ_=>by dsimp only;omega⟩
theorem zZp(c:Cfg)(S:WS)(i k:Nat):(zAv c S i k).length<=k:=by unfold zAv;rw[qQ];exact qN (List.length_filter_le _ _) (by rw[List.length_range];exact qA _)
theorem yGf(c:Cfg)(S:WS)(i k:Nat)(hi:i<k):(zAv c S i k).length+1<=k:=by
 unfold zAv;rw[qQ];have h:((List.range k).filter λj=> !(j==i)).length<(List.range k).length:=by refine List.length_filter_lt_length_iff_exists.2 ⟨i,jZ.2 hi,by simp⟩
 rw[List.length_range]at h;omega
theorem zEi(c:Cfg)(S:WS)(hn:c.n<=8):∀k,k<=c.n->(cA c S k).length<=8*k
 |0,_=>by simp[cA]
 |k+1,hk=>by have h1:=zEi c S hn k (by omega);have h2:=yGf c S k c.n (by omega);unfold cA at h1⊢;rw[List.range_succ,jN,qM];simp only[jU,List.flatMap_nil,jR];have h3:(zOi c S k).length=(zAv c S k c.n).length+1:=rfl;omega
theorem zIk(c:Cfg)(S:WS)(k:Nat):(dW c S k).length=k:=by simp[dW]
theorem zLq(R:List (List Ent)):∀(k:Nat) (q:List (List Ent)),(∀r∈q,bU r=true)->(zBd R k q).length=q.length/\∀r∈zBd R k q,bU r=true
 |0,q,h=>⟨rfl,h⟩
 |k+1,q,h=>by
  obtain⟨h1,h2⟩:=zLq R k q h;rw[zBd];refine⟨by rw[List.length_set,h1],λr hr=> ?_⟩;rcases jO hr with hr|rfl
  ·exact h2 r hr
  ·exact zJt _ _
theorem gnAt_ok{S:WS}{c:Cfg}{K L:Nat}(i k:Nat)(l:List Int)(hl:∀z∈l,0<=z/\z<=1048576)(h:S.ok c L)(hs:∀a b,(a≠i\/k<=b)->(S.sh a b).ok K)(hKL:L=K+1):(gnAt S i l k).ok c L/\∀a b,(a≠i\/k+1<=b)->((gnAt S i l k).sh a b).ok K:=by
 unfold gnAt
 split
 ·refine⟨{h with sh:=λa b=> ?_,gn:=λa=> ?_},λa b hab=> ?_⟩
  ·dsimp only;rw[zBq]
   split
   ·rw[zBq]
    split
    ·have:=zSt (hs i k (Or.inr (qA _))) ⟨1,l.getD k 0-(S.gn i).getD k 0,0,0⟩;rw[hKL];exact this
    ·exact h.sh _ _
   ·exact h.sh _ _
  ·dsimp only;unfold bN
   split
   ·exact zSb (h.gn i) k _ (zHl hl k)
   ·exact h.gn a
  ·dsimp only;rw[zBq]
   split
   ·rename_i ha;subst ha;rw[zBq,if_neg (by omega)];exact hs a b (Or.inr (by omega))
   ·exact hs a b (Or.inl (by assumption))
 ·exact⟨h,λa b hab=>hs a b (by omega)⟩
theorem zLo{c:Cfg}{K:Nat}(i:Nat)(l:List Int)(hl:∀z∈l,0<=z/\z<=1048576){S:WS}(h:S.ok c K):∀k,(dH i l k S).ok c (K+1)/\∀a b,(a≠i\/k<=b)->((dH i l k S).sh a b).ok K
 |0=>⟨h.more (by omega),λa b _=>h.sh a b⟩
 |k+1=>by obtain⟨h1,h2⟩:=zLo i l hl h k;exact gnAt_ok i k l hl h1 h2 rfl
theorem come_ok{S:WS}{c:Cfg}{K:Nat}{p:PoD}(h:S.ok c K)(hf:0<=p.fr/\p.fr<=c.n)(hc:c.br=c.n)(hf2:p.to_=c.n->p.fr<c.n):(zAt c S p).ok c (K+1):=by
 obtain⟨hv,hvl⟩:=zFd c p.data;unfold zAt
 split
 ·rename_i ht;refine{h.more (jF K)with bk:=λj=> ?_};unfold WS.wants;dsimp only
  split
  ·exact want_ok (h.bk j) (by have:=hf2 (by omega);omega) (zHl hv j)
  ·exact zSu (h.bk j) (by omega)
 split
 ·exact(zLo _ _ hv h _).1
 ·refine{h.more (jF K)with st:=λa=> ?_};unfold WS.learns;dsimp only;unfold bN
  split
  ·rename_i ha;obtain⟨h1,h2⟩:=zLq (dI c p.fr p.to_ p.data).1 (dI c p.fr p.to_ p.data).1.length (S.st p.to_.toNat) (h.st _).2;exact⟨h1.trans (h.st _).1,h2⟩
  ·exact h.st a
theorem tick_ok{S:WS}{c:Cfg}{K:Nat}(h:S.ok c K)(hf:bG c=true):(zGs c S).2.ok c (K+1):=by
 obtain⟨⟨hn,hn1,hn8⟩,_,_,_,hcap,_,_⟩:=bK hf;refine{h.more (jF K)with sh:=λi k=>zSt (h.sh i k) zEe,bk:=λj=> ?_,len:= ?_,lts:=λp hp=> ?_}
 ·show(if j<c.m then(fR c.cap c.tk (S.bk j)).1 else S.bk j).ok c.n ((K+1:Nat):Int)
  split
  ·exact zQj (h.bk j) hcap
  ·exact zSu (h.bk j) (by omega)
 ·show(S.lts++(cA c S.aged c.n++dW c S c.n)).length<=_;have h1:=zEi c S.aged hn8 c.n (qA _);have h2:=zIk c S c.n;have:=h.len;simp only[qM];omega
 ·rcases jI.1 (show p∈S.lts++(cA c S.aged c.n++dW c S c.n)from hp)with hp|hp
  ·exact h.lts p hp
  ·rcases jI.1 hp with hp|hp
   ·exact sends_ok (qA _) p hp
   ·exact yFt (qA _) p hp
theorem zNj{S:WS}{c:Cfg}{K:Nat}(h:S.ok c K)(p:PoD)(id:Int):(S.opened p id).ok c K:={h with}
theorem yDy{S:WS}{c:Cfg}{K:Nat}(h:S.ok c K)(hf:bG c=true)(id:Int):(fZ c S id).2.ok c (K+1):=by
 obtain⟨⟨hn,hn1,hn8⟩,_⟩:=bK hf;unfold fZ
 split
 ·exact h.more (jF K)
 cases hp:S.lts[id.toNat]? with
 |none=>exact h.more (jF K)
 |some p=>
  dsimp only
  split
  ·exact h.more (jF K)
  ·obtain⟨h1,h2,h3,h4⟩:=h.lts p (qB hp);exact come_ok (zNj h p id) h1 hn (λe=>by omega)
theorem entry_ok{S:WS}{c:Cfg}{K:Nat}(h:S.ok c K)(s:StpI)(i:Nat):(fK c S s i).2.ok c (K+1):=by
 unfold fK
 split
 ·exact h.more (jF K)
 split
 ·exact h.more (jF K)
 split
 ·refine{h.more (jF K)with st:=λa=> ?_};dsimp only;rw[zBq]
  split
  ·refine⟨by rw[List.length_set];exact(h.st i).1,λq hq=> ?_⟩;rcases jO hq with hq|rfl
   ·exact(h.st i).2 q hq
   ·exact zJt _ _
  ·exact h.st a
 split
 ·exact h.more (jF K)
 ·exact h.more (jF K)
theorem yHn{S:WS}{c:Cfg}{K:Nat}(h:S.ok c K)(s:StpI)(i:Nat):(fF c S s i).2.ok c (K+1):=by
 unfold fF
 split
 ·exact entry_ok h s i
 split
 ·exact h.more (jF K)
 split
 ·split
  ·exact h.more (jF K)
  split
  ·exact h.more (jF K)
  ·refine{h.more (jF K)with ask:=λa=> ?_};dsimp only;rw[zBq]
   split
   ·have:=zHl (h.ask i).2 s.item.toNat;exact zSb (h.ask i) _ _ (by omega)
   ·exact h.ask a
 ·refine{h.more (jF K)with sh:=λa b=> ?_};dsimp only;rw[zBq]
  split
  ·rw[zBq]
   split
   ·exact zSt (h.sh i _) _
   ·exact zQe (h.sh i b) (by omega)
  ·exact zQe (h.sh a b) (by omega)
theorem step_ok{S:WS}{c:Cfg}{K:Nat}(h:S.ok c K)(hf:bG c=true)(s:StpI):(stepW c S s).2.ok c (K+1):=by
 unfold stepW
 split
 ·exact tick_ok h hf
 split
 ·exact yDy h hf _
 split
 ·split
  ·exact{h.more (jF K)with}
  ·exact h.more (jF K)
 split
 ·exact h.more (jF K)
 split
 ·exact h.more (jF K)
 ·exact yHn h s _
theorem zLh{c:Cfg}(hf:bG c=true):(WS.new c).ok c 0:=by
 obtain⟨_,_,_,_,_,_,hmi⟩:=bK hf;refine⟨λ_ _=>new_ok,λ_=>⟨jB,λz hz=> ?_⟩,λ_=>⟨jB,λz hz=> ?_⟩,λ_=>⟨jB,λq hq=> ?_⟩,λj=> ?_,qA _,λp hp=>by cases hp⟩
 ·rw[(uB.1 hz).2];omega
 ·rw[(uB.1 hz).2];omega
 ·rw[(uB.1 hq).2];rfl
 ·show(if j<c.m then zCr (BkS.new c.n) (c.mi.zs.getD j 0)else BkS.new c.n).ok c.n ((0:Nat):Int)
  split
  ·have h1:=yCq c.n;have h2:=zHl hmi j;exact{h1 with res:=⟨by show 0<=0+_;omega,by show 0+_<=0+_;omega,by show 0+_<=_;omega⟩,qs:=by show zDq (List.replicate c.n 0)<=0+_;rw[zZy];omega}
  ·exact yCq c.n
theorem zVj{cs:Array Value}{o o':Nat}{l l':List Value}(h:Has cs o' l')(hd:o'+l'.length<=o\/o+l.length<=o'):Has (putAt cs o l) o' l':=by intro j u hj;have hjl:=(qK.1 hj).1;rw[zEn,if_neg (by omega)];exact h j u hj
section
variable {w w':World}{c:Cfg}{y:Lay}{S:WS}{K base:Nat}{ow:Nat->Tag}
theorem cV{t:Tag}{F:Nat->Bool}{k:Nat}(h:k<w.heap.size):zAa ow w w' t F k=ow k:=by unfold zAa;rw[if_pos h]
theorem zCo{t:Tag}{F:Nat->Bool}{k:Nat}(h:w.heap.size<=k)(h':k<w'.heap.size)(hF:F k=true):zAa ow w w' t F k=t:=by unfold zAa;rw[if_neg (by omega),if_pos ⟨h',hF⟩]
theorem zPy{t:Tag}{F:Nat->Bool}{k:Nat}(h:w.heap.size<=k)(hF:F k=false):zAa ow w w' t F k= .no:=by unfold zAa;rw[if_neg (by omega),if_neg (by rw[hF];simp)]
theorem PW.more{L:Nat}(h:PW w c y S K base ow)(hL:K<=L):PW w c y S L base ow:=by
 refine⟨λt=> ?_,h.low,h.fresh,h.cfg,h.may,h.bw⟩;have:=h.pc t;cases t with
 |off=>obtain⟨⟨v,ps,m,h1,h2,h3⟩,o1,o2⟩:=this;exact⟨⟨v,ps,m,h1,qN h2 hL,h3⟩,o1,o2⟩
 |lst=>obtain⟨⟨m,h1,h2⟩,o⟩:=this;exact⟨⟨m,h1,qN h2 hL⟩,o⟩
 |_=>exact this
def Turned(w:World)(c:Cfg)(y:Lay)(S':WS)(K base:Nat)(ow:Nat->Tag)(w':World):Prop:=∃ow',PW w' c y S' K base ow'/\Kept w w' ow ow'
theorem zIz(od:Ordr)(i k:Nat)(h:PW w c y S K base ow)(hi:i<c.n)(hk:k<c.m)(L:Int)(hs:(S.sh i k).ok L)(hL:L<=1000000-1):Calls prog 79 #[.pointer (some ⟨(y.br i).s,k*4,none⟩),od.val] w λe w'=>e= .returned ((S.sh i k).does od).2.val/\Turned w c y {S with sh:=bN S.sh i (bN (S.sh i) k ((S.sh i k).does od).1)} K base ow w':=by
 obtain⟨⟨cs,vs,h1,h2⟩,o⟩:=h.pc (.sh i) hi;obtain⟨ha,hv⟩:=h1 k hk;refine(yAg base _ (k*4) cs (S.sh i k) (vs k) w od L ha hs hL h.bw).mono ?_;rintro e w' ⟨v',rfl,hx,ho,hf⟩;have hD:∀b,b<w.heap.size->(b=(y.br i).s\/(vs k).ownBlock=some b)->ow b= .sh i:=λb hb hd=>by
  rcases hd with rfl|hd
  ·exact o
  ·exact hv b hd
 refine⟨rfl,_,h.turn (.sh i) (λ_=>true) (by simp) ho hD (λu hu W own hp=> ?_) ?_,Kept.turn _ _ (by simp) ho hD⟩
 ·cases u with
  |sh j=>
   have hji:j≠i:=λe=>hu (by rw[e])
   show j<c.n->ShRow W base (y.br j).s c.m (bN S.sh i _ j) own;rw[cQ _ _ hji];exact hp
  |_=>exact hp
 ·intro _;show ShRow w' base (y.br i).s c.m (bN S.sh i _ i) _;rw[dD];have hlen:∀(s:Shf) (v:Value),(s.cells v).length=4:=λ_ _=>rfl
  have hvl:∀j,j<c.m->∀b,(vs j).ownBlock=some b->b<w.heap.size:=λj hj b hb=>((h1 j hj).1.own.lt b hb).2
  refine⟨⟨putAt cs (k*4) (((S.sh i k).does od).1.cells v'),bN vs k v',λj hj=> ?_,λj j' hj hj' hne b hb=> ?_⟩,by rw[cV ha.blk.lt];exact o⟩
  ·by_cases hjk:j=k
   ·subst hjk;rw[dD,dD];refine⟨hx,λb hb=> ?_⟩;rcases hf b hb with h3|h3
    ·rw[cV (hvl j hk b h3)];exact hv b h3
    ·exact zCo h3 (hx.own.lt b hb).2 rfl
   ·rw[cQ _ _ hjk,cQ _ _ hjk];obtain⟨hb1,hb2⟩:=h1 j hj;refine⟨⟨hx.blk,zVj hb1.has (by rw[hlen,hlen];omega),bL hb1.own ho λb hb hd=> ?_⟩,λb hb=>by rw[cV (hvl j hj b hb)];exact hb2 b hb⟩;rcases hd with rfl|hd
    ·exact hb1.ne hb
    ·exact h2 j k hj hk hjk b hb hd
  ·by_cases hjk:j=k
   ·subst hjk;rw[dD]at hb;rw[cQ _ _ λe=>hne e.symm];rcases hf b hb with h3|h3
    ·exact h2 j j' hj hj' hne b h3
    ·exact λe=>by have:=hvl j' hj' b e;omega
   ·rw[cQ _ _ hjk]at hb;by_cases hjk':j'=k
    ·subst hjk';rw[dD];intro e;rcases hf b e with h3|h3
     ·exact h2 j j' hj hj' hne b hb h3
     ·have:=hvl j hj b hb;omega
    ·rw[cQ _ _ hjk'];exact h2 j j' hj hj' hne b hb
theorem PW.setGn(h:PW w c y S K base ow){i k:Nat}(hi:i<c.n)(hk:k<(S.gn i).length)(x:Int):Turned w c y {S with gn:=bN S.gn i ((S.gn i).set k x)} K base ow (w.setCell ⟨(y.br i).g,k,none⟩ (.int .i64 x)):=by
 have hr:=h.pc (.gn i) hi;have ho:Only (λb=>b=(y.br i).g) w (w.setCell ⟨(y.br i).g,k,none⟩ (.int .i64 x)):=bJ (Only.refl _ w) k _;have hD:∀b,b<w.heap.size->b=(y.br i).g->ow b= .gn i:=λb _ e=>by rw[e];exact hr.o
 refine⟨_,h.turn (.gn i) (λ_=>false) (by simp) ho hD (λu hu W own hp=> ?_) ?_,Kept.turn _ _ (by simp) ho hD⟩
 ·cases u with
  |gn j=>
   have hji:j≠i:=λe=>hu (by rw[e])
   show j<c.n->NumRow W base (y.br j).g (bN S.gn i _ j) own;rw[cQ _ _ hji];exact hp
  |_=>exact hp
 ·intro _;show NumRow _ base (y.br i).g (bN S.gn i _ i) _;rw[dD];exact⟨IRow.set_ hr.row hk x,hr.low,by rw[cV (Blk.lt hr.row)];exact hr.o⟩
theorem PW.setAsk(h:PW w c y S K base ow){i k:Nat}(hi:i<c.n)(hk:k<(S.ask i).length)(x:Int):Turned w c y {S with ask:=bN S.ask i ((S.ask i).set k x)} K base ow (w.setCell ⟨(y.br i).a,k,none⟩ (.int .i64 x)):=by
 have hr:=h.pc (.ask i) hi;have ho:Only (λb=>b=(y.br i).a) w (w.setCell ⟨(y.br i).a,k,none⟩ (.int .i64 x)):=bJ (Only.refl _ w) k _;have hD:∀b,b<w.heap.size->b=(y.br i).a->ow b= .ask i:=λb _ e=>by rw[e];exact hr.o
 refine⟨_,h.turn (.ask i) (λ_=>false) (by simp) ho hD (λu hu W own hp=> ?_) ?_,Kept.turn _ _ (by simp) ho hD⟩
 ·cases u with
  |ask j=>
   have hji:j≠i:=λe=>hu (by rw[e])
   show j<c.n->NumRow W base (y.br j).a (bN S.ask i _ j) own;rw[cQ _ _ hji];exact hp
  |_=>exact hp
 ·intro _;show NumRow _ base (y.br i).a (bN S.ask i _ i) _;rw[dD];exact⟨IRow.set_ hr.row hk x,hr.low,by rw[cV (Blk.lt hr.row)];exact hr.o⟩
end
theorem zSn(base g b m:Nat)(v:Value)(l:List Po)(top:Int->Int->Int)(w:World)(k:Nat)(p:Po)(h:OfAt w base g b v l m top)(hp:l[k]? =some p):Calls prog 85 #[.pointer (some ⟨g,0,none⟩),.int .i64 k] w λe w'=>e= .returned (.int .i64 p.d.fr)/\w=w':=by
 obtain⟨A,c,rfl,_⟩:=bE h.own;have c0:=h.c0;have h2:=(qK.1 hp).1;obtain⟨bl,o,x,rfl,_,hx,hc⟩:=fB Po.cells_len (by omega) (Reads.of_own h.own) h2 rfl;obtain rfl:=Option.some.inj (hp.symm.trans hx);have x0:=hc 0 _ rfl;simp only[Nat.add_zero]at x0;have h3:(k:Int)<(l.length:Int):=by omega
 obtain⟨n,hn⟩:=kB l.length;rw[<-hn]at c0 h3 h2;clear h hc hx hn hp;go_enter func85,ntmps85;go_wp2_with fail;go_ret;exact⟨rfl,rfl⟩
theorem zVx(base g b m:Nat)(v:Value)(l:List Po)(top:Int->Int->Int)(w:World)(k:Nat)(p:Po)(h:OfAt w base g b v l m top)(hp:l[k]? =some p):Calls prog 91 #[.pointer (some ⟨g,0,none⟩),.int .i64 k] w λe w'=>e= .returned (.bool (decide ((k:Int)<top p.d.fr p.d.to_)))/\uR w w':=by
 obtain⟨A,c,rfl,_⟩:=bE h.own;have h2:=(qK.1 hp).1;obtain⟨bl,o,x,rfl,_,hx,hc⟩:=fB Po.cells_len (by omega) (Reads.of_own h.own) h2 rfl;obtain rfl:=Option.some.inj (hp.symm.trans hx);have hw:=h.wf p (qB hp);obtain⟨⟨fr,to2,data⟩,A2,n2,c2⟩:=p;have d0:=hc 0 _ rfl;have d1:=hc 1 _ rfl;have d2:=hc 2 _ rfl;simp only[Nat.add_zero]at d0;dsimp only at d0 d1 d2 hw;have e0:=h.c0;have h3:(k:Int)<(l.length:Int):=by omega
 obtain⟨n,hn⟩:=kB l.length;rw[<-hn]at e0 h3 h2;obtain⟨wx,hwx⟩:=kB (w.alloc (.cells #[.int .i64 fr,.int .i64 to2,.slice A2 n2 c2] 187));have hbx:=uH hwx;have kx:Blk wx w.heap.size 187 #[.int .i64 fr,.int .i64 to2,.slice A2 n2 c2]:=by rw[hwx];exact Blk.new w 187 _
 have hx1:=h.calm hbx;have hlk:=λn:Nat=>(hx1.map.only (D:=λ_=>False) ((Only.refl _ wx).drewN n) λe=>e).look fr to2 hw.1 hw.2
 unfold zIa at hlk;obtain⟨HX,HKX,HBX,HWX⟩:=uK hx1 kx hbx hwx;clear h hc hx hn hp hx1 kx hbx hwx hw;go_enter func91,ntmps91;go_upto_region 2 with fail;rw[<-HWX.s];have c1:=HX.s.c1;have z0:=HKX.s.cell 0;have z1:=HKX.s.cell 1;go_quiet (fail);have HB:=uT (below_drewN HBX.s nq);generalize wx.drewN nq=w2 at HB⊢;go_wp2_with fail;go_ret;exact⟨rfl,HB.s⟩
def bR(code who:Int):Tol:=⟨bY code who,none,0,0,none,0,0,none,0,0⟩
theorem zAf:(#[.int .i64 0,.int .i64 0,.int .i64 0,.int .i64 0,.int .i64 0,.int .i64 0,.int .i64 0,.int .i64 0,.slice none 0 0,.slice none 0 0,.slice none 0 0]:Array Value)=(bR 0 0).cells.toArray:=rfl
theorem zDn(code who:Int)(w:World)(B:Nat):TolOwn (bR code who) w B:=⟨qH _ _ _ _,qH _ _ _ _,qH _ _ _ _⟩
theorem gA(e:Int)(w:World):Calls prog 66 #[.int .i64 e] w λx w'=>x= .returned (bR e 0).val/\uR w w':=by unfold bR bY Tol.val Stk.none;dsimp only;go_enter func66,ntmps66;go_wp2_with fail;have kx:=Blk.new w 57 #[.int .i64 e,.int .i64 0,.int .i64 0,.int .i64 0,.int .i64 0,.int .i64 0,.int .i64 0,.int .i64 0,.slice none 0 0,.slice none 0 0,.slice none 0 0];have d0:=kx.cell 0;have d1:=kx.cell 1;have d2:=kx.cell 2;have d3:=kx.cell 3;have d4:=kx.cell 4;have d5:=kx.cell 5;have d6:=kx.cell 6;have d7:=kx.cell 7;have d8:=kx.cell 8;have d9:=kx.cell 9;have d10:=kx.cell 10;refine bodyPost_ret (v:= .agg #[.int .i64 e,.int .i64 0,.int .i64 0,.int .i64 0,.int .i64 0,.int .i64 0,.int .i64 0,.int .i64 0,.slice none 0 0,.slice none 0 0,.slice none 0 0]) (by simp[results,Tryz.results66,go_sem,d0,d1,d2,d3,d4,d5,d6,d7,d8,d9,d10]) rfl ⟨rfl,(qC _ _).alloc (qA _) _⟩
section
variable {w:World}{c:Cfg}{y:Lay}{S:WS}{K base:Nat}{ow:Nat->Tag}
theorem zOl(h:PW w c y S K base ow)(id:Int)(hwf:(Lit.int .i64 id).wf=true)(hlen:S.lts.length<=1000000):Calls prog 65 #[.pointer (some ⟨y.hb,0,none⟩),.int .i64 id] w λe w'=>e= .returned (.int .i64 (gD S id))/\uR w w':=by
 have hcon:=h.pc .con;obtain⟨⟨v,ps,m,hof,_,hps,_,_⟩,_,_⟩:=h.pc .off;obtain⟨⟨m2,hls,_⟩,_⟩:=h.pc .lst;have hpl:ps.length=S.lts.length:=by rw[<-hps,qQ]
 have HT:=uT (zGr base y.og y.ob m v ps S.top w id hof (by omega));rw[hps]at HT;have c7:=hcon.blk.cell 7;have HC:=uT hcon.blk;by_cases h1:toP S.lts id<0
 ·have HD:=uT (show gD S id=6 from if_pos h1);have hd1:decide (toP S.lts id<0)=true:=decide_eq_true h1;generalize toP S.lts id=T at HT hd1;clear h hcon hof hps hls hpl h1;go_enter func65,ntmps65;go_upto_region 1 with fail;go_wp2_with fail;refine HT.s.mono ?_;rintro _ _ ⟨rfl,rfl⟩;go_wp2_with fail;go_ret;exact⟨fG HD.s.symm,qC _ _⟩
 ·have hid:0<=id:=by
   refine Int.not_lt.1 λe=>h1 ?_
   unfold toP;rw[if_pos e];decide
  obtain⟨k,rfl⟩:=qP hid;have hkp:∃p,ps[k]? =some p:=by
   cases hk:ps[k]? with
   |some p=>exact⟨p,rfl⟩
   |none=>
    exfalso
    apply h1;unfold toP;rw[if_neg (by omega),qR,<-hps,qV,hk]
    decide
  obtain⟨p,hp⟩:=hkp;have hpd:S.lts[k]? =some p.d:=by rw[<-hps,qV,hp];rfl
  have HD:=uT (show gD S k=if S.lost k||decide ((k:Int)<S.top p.d.fr p.d.to_)then 10 else 0 by unfold gD WS.to_;rw[if_neg h1,qR,hpd])
  obtain⟨HOLD,HLK⟩:=uI (λW (hW:uR w W)=>zVx base y.og y.ob m v ps S.top W k p (hof.calm hW) hp) (λW (hW:uR w W)=>(hls.below hW).look k hwf);have hd1:decide (toP S.lts k<0)=false:=decide_eq_false h1;generalize toP S.lts k=T at HT hd1;generalize decide ((k:Int)<S.top p.d.fr p.d.to_)=O at HOLD HD;clear h hcon hof hps hls hpl h1 hp hpd hid;go_enter func65,ntmps65;go_upto_region 1 with fail;go_wp2_with fail;refine HT.s.mono ?_;rintro _ _ ⟨rfl,rfl⟩;go_upto_region 3 with fail;have c8:=HC.s.cell 8;have lk:=HLK.s w (qC _ _);cases hl:S.lost k with
  |true=>rw[hl]at HD lk;go_wp2_with fail;go_ret;exact⟨fG HD.s.symm,qC _ _⟩
  |false=>
   rw[hl]at HD lk;go_wp2_with fail;refine(HOLD.s w (qC _ _)).mono ?_;rintro _ w2 ⟨rfl,hb2⟩;cases O with
   |true=>go_wp2_with fail;go_ret;exact⟨fG HD.s.symm,hb2⟩
   |false=>go_wp2_with fail;go_ret;exact⟨fG HD.s.symm,hb2⟩
end
section
variable {w w':World}{c:Cfg}{y:Lay}{S:WS}{K base:Nat}{ow:Nat->Tag}
theorem zVw(h:PW w c y S K base ow)(j who:Nat)(n:Int)(hj:j<c.m)(hw:who<c.n)(hl:(S.bk j).wants.length=c.n):Calls prog 87 #[.pointer (some ⟨y.bg j,0,none⟩),.int .i64 who,.int .i64 n] w λe w'=>e= .returned (.tuple #[])/\Turned w c y {S with bk:=bN S.bk j (zCs (S.bk j) who n)} K base ow w':=by
 obtain⟨⟨p,hg,hb,ho⟩⟩:=h.pc (.bk j) hj;rw[<-hg];refine(zWx base c.n p c.cap c.tk (S.bk j) w who n hb hw hl (bK h.may).1.2.2).mono ?_;rintro e w' ⟨rfl,hb',hon⟩;have hD:∀b,b<w.heap.size->p.has b->ow b= .bk j:=λb _ hd=>ho b hd
 refine⟨rfl,_,h.turn (.bk j) (λ_=>false) (by simp) hon hD (λu hu W own hp=> ?_) ?_,Kept.turn _ _ (by simp) hon hD⟩
 ·cases u with
  |bk i=>
   have hji:i≠j:=λe=>hu (by rw[e])
   show i<c.m->BkRow W base (y.bg i) c.n c.cap c.tk (bN S.bk j _ i) own;rw[cQ _ _ hji];exact hp
  |_=>exact hp
 ·intro _;show BkRow w' base (y.bg j) c.n c.cap c.tk (bN S.bk j _ j) _;rw[dD];exact⟨⟨p,hg,hb',λk hk=>by rw[cV (hb.lt k hk)];exact ho k hk⟩⟩
def yHv(w:World)(c:Cfg)(y:Lay)(S':WS)(K base:Nat)(ow:Nat->Tag)(l:List Int)(r:Int)(e:Ending)(w':World):Prop:=
 ∃(A:Option Addr) (cc:Nat) (ow':Nat->Tag),e= .returned (.tuple #[.slice A c.n cc,.int .i64 r])/\w'.ownsRow w.heap.size 3 1 (.slice A c.n cc) c.n (l.map (.int .i64))/\PW w' c y S' K base ow'/\Kept w w' ow ow'/\∀q,(Value.slice A c.n cc).ownBlock=some q->ow' q= .no
theorem zSs(h:PW w c y S K base ow)(j:Nat)(hj:j<c.m)(L:Int)(hs:(S.bk j).ok c.n L)(hL:L<=1000000):Calls prog 82 #[.pointer (some ⟨y.bg j,0,none⟩)] w (yHv w c y {S with bk:=bN S.bk j (fR c.cap c.tk (S.bk j)).1} K base ow (fR c.cap c.tk (S.bk j)).2.1 (fR c.cap c.tk (S.bk j)).2.2):=by
 obtain⟨⟨p,hg,hb,ho⟩⟩:=h.pc (.bk j) hj;obtain⟨⟨_,hn1,hn8⟩,_,htk,_,hcap,_,_⟩:=bK h.may;rw[<-hg];refine(zWm base c.n p c.cap c.tk (S.bk j) w L hb hs hL ⟨hn1,hn8⟩ hcap htk h.bw).mono ?_;rintro e w' ⟨p',A,cc,rfl,hrow,hb',g1,g2,g3,g4,hon,hap⟩;have hD:∀b,b<w.heap.size->p.has b->ow b= .bk j:=λb _ hd=>ho b hd
 refine⟨A,cc,_,rfl,hrow,h.turn (.bk j) (λk=>decide (k=p'.gq)) (by simp) hon hD (λu hu W own hp=> ?_) ?_,Kept.turn _ _ (by simp) hon hD,λq hq=> ?_⟩
 ·cases u with
  |bk i=>
   have hji:i≠j:=λe=>hu (by rw[e])
   show i<c.m->BkRow W base (y.bg i) c.n c.cap c.tk (bN S.bk j _ i) own;rw[cQ _ _ hji];exact hp
  |_=>exact hp
 ·intro _;show BkRow w' base (y.bg j) c.n c.cap c.tk (bN S.bk j _ j) _;rw[dD];refine⟨⟨p',g1.trans hg,hb',λk hk=> ?_⟩⟩;have hold:p.has k->zAa ow w w' (.bk j) (λk=>decide (k=p'.gq)) k= .bk j:=λhk'=>by rw[cV (hb.lt k hk')];exact ho k hk'
  rcases hk with e|e|e|e
  ·exact hold (Or.inl (e.trans g1))
  ·exact hold (Or.inr (Or.inl (e.trans g2)))
  ·exact hold (Or.inr (Or.inr (Or.inl (e.trans g3))))
  ·rcases g4 with e4|e4
   ·exact hold (Or.inr (Or.inr (Or.inr (e.trans e4))))
   ·exact zCo (by omega) (hb'.lt k (Or.inr (Or.inr (Or.inr e)))) (by simpa using e)
 ·have h1:=(hrow.lt q hq).1;exact zPy h1 (by have:=hap q hq;simp only[decide_eq_false_iff_not];exact λe=>this (Or.inr (Or.inr (Or.inr e))))
theorem zQs(h:PW w c y S K base ow)(hl:S.lts.length<=1000000)(fr to_:Int)(A:Option Addr)(n cc:Nat)(data:List Int)(B:Nat)(hdl:data.length=n)(hn:n<=1000000)(hr:Reads w B 1 A n (data.map (.int .u8)))(hB:B<=w.heap.size)(hf:(Lit.int .i64 fr).wf=true)(ht:(Lit.int .i64 to_).wf=true):Calls prog 78 #[.pointer (some ⟨y.og,0,none⟩),.int .i64 fr,.int .i64 to_,.slice A n cc] w λe w'=>e= .returned (.int .i64 S.lts.length)/\Turned w c y (S.posts [⟨fr,to_,data⟩]) K base ow w':=by
 obtain⟨⟨v,ps,m,hof,hm,hps,hrows,hv⟩,o1,o2⟩:=h.pc .off;have hpl:ps.length=S.lts.length:=by rw[<-hps,qQ]
 refine(zSz base y.og y.ob m v ps S.top w fr to_ A n cc data B hof (by omega) hdl hn hr hB h.bw hf ht).mono ?_;rintro e w' ⟨v',p,rfl,hpd,hof',hon,hvn,hpn⟩;have hD:∀b,b<w.heap.size->(b=y.og\/v.ownBlock=some b)->ow b= .off:=λb _ hd=>by
  rcases hd with rfl|hd
  ·exact o1
  ·exact hv b hd
 refine⟨by rw[hpl],_,h.turn .off (λ_=>true) (by simp) hon hD (λu hu W own hp=> ?_) ?_,Kept.turn _ _ (by simp) hon hD⟩
 ·cases u with
  |off=>exact absurd rfl hu
  |_=>exact hp
 ·refine⟨⟨v',ps++[p],m,hof',hm,?_,λq hq=> ?_,λk hk=> ?_⟩,by rw[cV hof.blk.lt];exact o1,by rw[cV hof.map.lt];exact o2⟩
  ·rw[jA,hps];show S.lts++[p.d]=S.lts++[_];rw[hpd]
  ·rcases jI.1 hq with hq|hq
   ·refine⟨(hrows q hq).1,λk hk=> ?_⟩;rw[cV ((hof.rows q hq).lt k hk).2];exact(hrows q hq).2 k hk
   ·rw[jJ]at hq;subst hq;have hqo:=hof'.rows q (by simp);refine⟨?_,λk hk=>zCo (hpn k hk) (hqo.lt k hk).2 rfl⟩;have h1:=(Reads.of_own hqo).1;rw[qQ,hpd]at h1;dsimp only at h1;omega
  ·rcases hvn k hk with h1|h1
   ·rw[cV (hof.own.lt k h1).2];exact hv k h1
   ·exact zCo h1 (hof'.own.lt k hk).2 rfl
def OpenPost(w:World)(c:Cfg)(y:Lay)(S':WS)(K base:Nat)(ow:Nat->Tag)(data:List Int)(e:Ending)(w':World):Prop:=
 ∃(A:Option Addr) (n cc:Nat) (ow':Nat->Tag),e= .returned (.tuple #[.slice A n cc,.int .i64 0])/\w'.ownsRow w.heap.size 5 1 (.slice A n cc) n (data.map (.int .u8))/\PW w' c y S' K base ow'/\Kept w w' ow ow'/\∀q,(Value.slice A n cc).ownBlock=some q->ow' q= .no
theorem zRq(h:PW w c y S K base ow)(hl:S.lts.length<=1000000)(hK:K<1000000)(k:Nat)(p:PoD)(hp:S.lts[k]? =some p)(hto:0<=p.to_)(hold:S.top p.fr p.to_<=k)(hw:(Lit.int .i64 p.to_).wf=true):Calls prog 84 #[.pointer (some ⟨y.og,0,none⟩),.int .i64 p.to_,.int .i64 k] w (OpenPost w c y (S.opened p k) (K+1) base ow p.data):=by
 obtain⟨⟨v,ps,m,hof,hm,hps,hrows,hv⟩,o1,o2⟩:=h.pc .off;have hpl:ps.length=S.lts.length:=by rw[<-hps,qQ]
 have hop:zHh (ps.map (·.d)) S.top p.to_ k=(λf t=>if f=p.fr/\t=p.to_ then(k:Int)+1 else S.top f t,p.data,0):=by
  have htp:toP (ps.map (·.d)) k=p.to_:=by unfold toP;rw[if_neg (by omega),qR,hps,hp]
  unfold zHh;rw[htp,if_neg (by omega),if_neg (by simp),qR,hps,hp];dsimp only;rw[if_neg (by omega)]
 refine(zTj base y.og y.ob m v ps S.top w p.to_ k hof (by omega) (by unfold maxLen;omega) h.bw (λq hq=>(hrows q hq).1) hw).mono ?_;rw[hop];rintro e w' ⟨A,n,cc,rfl,hrow,hof',hon⟩;have hD:∀b,b<w.heap.size->b=y.ob->ow b= .off:=λb _ hd=>by rw[hd];exact o2
 refine⟨A,n,cc,_,rfl,hrow,h.turn .off (λ_=>false) (by simp) hon hD (λu hu W own hp=> ?_) ?_,Kept.turn _ _ (by simp) hon hD,λq hq=>zPy (hrow.lt q hq).1 rfl⟩
 ·cases u with
  |off=>exact absurd rfl hu
  |lst=>obtain⟨⟨m2,h1,h2⟩,o⟩:=hp;exact⟨⟨m2,h1,by omega⟩,o⟩
  |_=>exact hp
 ·refine⟨⟨v,ps,m+1,hof',by omega,hps,λq hq=>⟨(hrows q hq).1,λk hk=> ?_⟩,λk hk=> ?_⟩,by rw[cV hof.blk.lt];exact o1,by rw[cV hof.map.lt];exact o2⟩
  ·rw[cV ((hof.rows q hq).lt k hk).2];exact(hrows q hq).2 k hk
  ·rw[cV (hof.own.lt k hk).2];exact hv k hk
theorem PW.loseAt(h:PW w c y S K base ow)(hK:K<1000000)(id:Int)(hw:(Lit.int .i64 id).wf=true):∃w',(Instr.mapUpdate 70 (.map (some y.lb)) (.int .i64 id) (.bool true)).run prog w= .ok () w'/\Turned w c y (S.lose id) (K+1) base ow w':=by
 obtain⟨⟨m,hls,hm⟩,o⟩:=h.pc .lst;obtain⟨w',hrun,hls',hg⟩:=hls.store id true hw (by unfold maxLen;omega);have hon:Only (λk=>k=y.lb) w w':=(Only.refl _ w).grown hg (λg hg _=>by cases hg;rfl);have hD:∀b,b<w.heap.size->b=y.lb->ow b= .lst:=λb _ hd=>by rw[hd];exact o
 refine⟨w',hrun,_,h.turn .lst (λ_=>false) (by simp) hon hD (λu hu W own hp=> ?_) ?_,Kept.turn _ _ (by simp) hon hD⟩
 ·cases u with
  |lst=>exact absurd rfl hu
  |off=>obtain⟨⟨v,ps,m2,h1,h2,h3⟩,a,b⟩:=hp;exact⟨⟨v,ps,m2,h1,by omega,h3⟩,a,b⟩
  |_=>exact hp
 ·exact⟨⟨m+1,hls',by omega⟩,by rw[cV hls.lt];exact o⟩
theorem yCe(h:PW w c y S K base ow)(i l:Nat)(hi:i<c.n)(es:List Ent){SS:List EnR}(hs:StoreAt w base (y.br i).t SS)(hS:SS.map EnR.es=S.st i)(hrows:∀r∈SS,∀b,r.val.ownBlock=some b->ow b= .str i)(ho:ow (y.br i).t= .str i){e:Ending}(hp:zNq w base (y.br i).t SS l es e w'):e= .returned (.tuple #[])/\Turned w c y {S with st:=bN S.st i ((S.st i).set l es)} K base ow w':=by
 obtain⟨rfl,r,hre,hs',hon,hrn⟩:=hp;have hD:∀b,b<w.heap.size->b=(y.br i).t->ow b= .str i:=λb _ hd=>by rw[hd];exact ho
 refine⟨rfl,_,h.turn (.str i) (λ_=>true) (by simp) hon hD (λu hu W own hp=> ?_) ?_,Kept.turn _ _ (by simp) hon hD⟩
 ·cases u with
  |str j=>
   have hji:j≠i:=λe=>hu (by rw[e])
   show j<c.n->StRow W base (y.br j).t (bN S.st i _ j) own;rw[cQ _ _ hji];exact hp
  |_=>exact hp
 ·intro _;show StRow w' base (y.br i).t (bN S.st i _ i) _;rw[dD];refine⟨⟨SS.set l r,hs',by rw[List.map_set,hS,hre],λq hq b hb=> ?_⟩,by rw[cV hs.blk.lt];exact ho⟩;rcases jO hq with hq'|rfl
  ·rw[cV ((hs.rows q hq').lt b hb).2];exact hrows q hq' b hb
  ·exact zCo (hrn b hb) ((hs'.rows q hq).lt b hb).2 rfl
theorem zSm(h:PW w c y S K base ow)(i l:Nat)(hi:i<c.n)(hl:l<c.ln)(hst:(S.st i).length=c.ln)(A:Option Addr)(n cc:Nat)(b:List Ent)(B:Nat)(hbl:b.length=n)(hn:n<=1000000)(hr:Reads w B 5 A n (b.flatMap bD))(hB:B<=w.heap.size):Calls prog 90 #[.slice (some ⟨(y.br i).t,0,none⟩) c.ln c.ln,.int .i64 l,.slice A n cc] w λe w'=>e= .returned (.tuple #[])/\Turned w c y {S with st:=bN S.st i ((S.st i).set l (dY ((S.st i).getD l []) b).1)} K base ow w':=by
 obtain⟨⟨SS,hs,hS,hrows⟩,o⟩:=h.pc (.str i) hi;have hSl:SS.length=c.ln:=by rw[<-hst,<-hS,qQ]
 obtain⟨x,hx⟩:∃x,SS[l]? =some x:=⟨_,qI (by omega)⟩;have hxe:(S.st i).getD l []=x.es:=by rw[<-hS,qG,qV,hx];rfl
 have hl4:=(bK h.may).2.1;rw[hxe];exact(zLc base (y.br i).t c.ln SS w l x A n cc b B hs hSl hx hbl (by omega) hr hB h.bw (by omega)).mono λe w' hp=>yCe h i l hi _ hs hS hrows o hp
theorem zVz(h:PW w c y S K base ow)(i l:Nat)(hi:i<c.n)(hl:l<c.ln)(hst:(S.st i).length=c.ln/\∀q∈S.st i,bU q=true)(who key value:Int)(gone:Bool):Calls prog 116 #[.slice (some ⟨(y.br i).t,0,none⟩) c.ln c.ln,.int .i64 l,.int .i64 who,.int .i64 key,.int .i64 value,.bool gone] w λe w'=>e= .returned (.tuple #[])/\Turned w c y {S with st:=bN S.st i ((S.st i).set l (zFm ((S.st i).getD l []) who key value gone))} K base ow w':=by
 obtain⟨⟨SS,hs,hS,hrows⟩,o⟩:=h.pc (.str i) hi;have hSl:SS.length=c.ln:=by rw[<-hst.1,<-hS,qQ]
 obtain⟨x,hx⟩:∃x,SS[l]? =some x:=⟨_,qI (by omega)⟩;have hxe:(S.st i).getD l []=x.es:=by rw[<-hS,qG,qV,hx];rfl
 have hl4:=(bK h.may).2.1;have hxm:x.es∈S.st i:=by rw[<-hS];exact jC.2 ⟨x,qB hx,rfl⟩
 rw[hxe];exact(zYq base (y.br i).t c.ln SS w l x who key value gone hs hSl hx (yFu (hst.2 _ hxm)) h.bw (by omega)).mono λe w' hp=>yCe h i l hi _ hs hS hrows o hp
theorem zTy(h:PW w c y S K base ow)(i l:Nat)(hi:i<c.n)(hl:l<c.ln)(hst:(S.st i).length=c.ln)(key:Int):Calls prog 117 #[.slice (some ⟨(y.br i).t,0,none⟩) c.ln c.ln,.int .i64 l,.int .i64 key] w λe w'=>e= .returned (.tuple #[zCe (zAn ((S.st i).getD l []) key).1,.bool (zAn ((S.st i).getD l []) key).2])/\uR w w':=by
 obtain⟨⟨SS,hs,hS,hrows⟩,o⟩:=h.pc (.str i) hi;have hSl:SS.length=c.ln:=by rw[<-hst,<-hS,qQ]
 obtain⟨x,hx⟩:∃x,SS[l]? =some x:=⟨_,qI (by omega)⟩;have hxe:(S.st i).getD l []=x.es:=by rw[<-hS,qG,qV,hx];rfl
 have hl4:=(bK h.may).2.1;rw[hxe];exact zWj base (y.br i).t c.ln SS w l x key hs hSl hx (by omega)
end
def zEd(d:zCl):zCl:={d with who:=0}
def TolNo(t:Tol)(ow:Nat->Tag):Prop:=∀v,(v=Value.slice t.sA t.sn t.sc\/v=Value.slice t.fA t.fn t.fc\/v=Value.slice t.rA t.rn t.rc)->∀k,v.ownBlock=some k->ow k= .no
theorem zEr(code who:Int)(ow:Nat->Tag):TolNo (bR code who) ow:=λv hv k hk=>by rcases hv with rfl|rfl|rfl<;>cases hk
def fI(w:World)(c:Cfg)(y:Lay)(K base:Nat)(ow:Nat->Tag)(r:zCl×WS)(e:Ending)(w':World):Prop:=
 ∃t:Tol,e= .returned t.val/\t.d=r.1/\TolOwn t w' w.heap.size/\∃ow',PW w' c y r.2 K base ow'/\Kept w w' ow ow'/\TolNo t ow'
theorem zAe{w:World}{c:Cfg}{y:Lay}{K base:Nat}{ow:Nat->Tag}{S':WS}{w':World}(code:Int){who:Int}{r:zCl×WS}(hr:r=(bY code who,S'))(h:Turned w c y S' K base ow w'):fI w c y K base ow (zEd r.1,r.2) (.returned (bR code 0).val) w':=by obtain⟨ow',h1,h2⟩:=h;subst hr;exact⟨bR code 0,rfl,rfl,zDn _ _ _ _,ow',h1,h2,zEr _ _ _⟩
def wrT(W:World)(b:Nat)(t:Tol):World:=
 ((((((((((W.setCell ⟨b,0,none⟩ (.int .i64 t.d.code)).setCell ⟨b,1,none⟩ (.int .i64 t.d.who)).setCell ⟨b,2,none⟩ (.int .i64 t.d.stock.code)).setCell ⟨b,3,none⟩ (.int .i64 t.d.stock.id)).setCell ⟨b,4,none⟩ (.int .i64 t.d.stock.free)).setCell ⟨b,5,none⟩ (.int .i64 t.d.stock.held)).setCell ⟨b,6,none⟩ (.int .i64 t.d.stock.used)).setCell ⟨b,7,none⟩ (.int .i64 t.d.value)).setCell ⟨b,8,none⟩ (.slice t.sA t.sn t.sc)).setCell ⟨b,9,none⟩ (.slice t.fA t.fn t.fc)).setCell ⟨b,10,none⟩ (.slice t.rA t.rn t.rc)
theorem zFu{W:World}{b:Nat}{cs:Array Value}(h:Blk W b 57 cs)(hs:cs.size=11)(t:Tol):Blk (wrT W b t) b 57 t.cells.toArray:=by
 have h8:=((((((((((h.set_ 0 (.int .i64 t.d.code)).set_ 1 (.int .i64 t.d.who)).set_ 2 (.int .i64 t.d.stock.code)).set_ 3 (.int .i64 t.d.stock.id)).set_ 4 (.int .i64 t.d.stock.free)).set_ 5 (.int .i64 t.d.stock.held)).set_ 6 (.int .i64 t.d.stock.used)).set_ 7 (.int .i64 t.d.value)).set_ 8 (.slice t.sA t.sn t.sc)).set_ 9 (.slice t.fA t.fn t.fc)).set_ 10 (.slice t.rA t.rn t.rc);have e:(((((((((((cs.setIfInBounds 0 (.int .i64 t.d.code)).setIfInBounds 1 (.int .i64 t.d.who)).setIfInBounds 2 (.int .i64 t.d.stock.code)).setIfInBounds 3 (.int .i64 t.d.stock.id)).setIfInBounds 4 (.int .i64 t.d.stock.free)).setIfInBounds 5 (.int .i64 t.d.stock.held)).setIfInBounds 6 (.int .i64 t.d.stock.used)).setIfInBounds 7 (.int .i64 t.d.value)).setIfInBounds 8 (.slice t.sA t.sn t.sc)).setIfInBounds 9 (.slice t.fA t.fn t.fc)).setIfInBounds 10 (.slice t.rA t.rn t.rc))=t.cells.toArray:=by
  rw[<-uD];simp only[Array.toList_setIfInBounds,Tol.cells];have hl:cs.toList.length=11:=by simpa using hs
  generalize cs.toList=l at hl
  match l,hl with
  |[a,b,c,d,e,f,g,h,i,j,k],_=>rfl
 rw[e]at h8;exact h8
theorem zDr(W:World)(b:Nat)(t:Tol):Only (λk=>k=b) W (wrT W b t):=
 bJ (bJ (bJ (bJ (bJ (bJ (bJ (bJ (bJ (bJ (bJ (Only.refl _ W) 0 _) 1 _) 2 _) 3 _) 4 _) 5 _) 6 _) 7 _) 8 _) 9 _) 10 _
theorem dM{W:World}{b:Nat}{t:Tol}(h:Blk W b 57 t.cells.toArray):W.cell? ⟨b,0,none⟩=some (.int .i64 t.d.code)/\W.cell? ⟨b,1,none⟩=some (.int .i64 t.d.who)/\W.cell? ⟨b,2,none⟩=some (.int .i64 t.d.stock.code)/\W.cell? ⟨b,3,none⟩=some (.int .i64 t.d.stock.id)/\W.cell? ⟨b,4,none⟩=some (.int .i64 t.d.stock.free)/\W.cell? ⟨b,5,none⟩=some (.int .i64 t.d.stock.held)/\W.cell? ⟨b,6,none⟩=some (.int .i64 t.d.stock.used)/\W.cell? ⟨b,7,none⟩=some (.int .i64 t.d.value)/\W.cell? ⟨b,8,none⟩=some (.slice t.sA t.sn t.sc)/\W.cell? ⟨b,9,none⟩=some (.slice t.fA t.fn t.fc)/\W.cell? ⟨b,10,none⟩=some (.slice t.rA t.rn t.rc):=⟨h.cell 0,h.cell 1,h.cell 2,h.cell 3,h.cell 4,h.cell 5,h.cell 6,h.cell 7,h.cell 8,h.cell 9,h.cell 10⟩
theorem zLu{fn:Func}{tmps:Array Value}{w:World}{b s:Nat}{t:Tol}(hk:Blk w b 57 t.cells.toArray)(hr:fn.results=#[.cell s 57]:=by rfl)(ht:tmps.getD s undef= .pointer (some ⟨b,0,none⟩):=by rfl):(results fn tmps).run prog w= .ok t.val w:=by
 obtain⟨d0,d1,d2,d3,d4,d5,d6,d7,d8,d9,d10⟩:=dM hk;have ht:tmps[s]?.getD undef= .pointer (some ⟨b,0,none⟩):=by simpa using ht
 simp[results,hr,go_sem,ht,d0,d1,d2,d3,d4,d5,d6,d7,d8,d9,d10,Tol.val]
theorem dC{fn:Func}{R:Ending->World->Prop}{a:Act}{w:World}{b s:Nat}{cs:Array Value}{t:Tol}(h:Blk w b 57 cs)(hs:cs.size=11)(hG:∀w9,Only (λk=>k=b) w w9->R (.returned t.val) w9)(hr:fn.results=#[.cell s 57]:=by rfl)(ht:a.tmps.getD s undef= .pointer (some ⟨b,0,none⟩):=by rfl)(hd:a.defers=[]:=by rfl):bodyPost prog fn R .ret a (wrT w b t):=
 bodyPost_ret (zLu (zFu h hs t) hr ht) hd (hG _ (zDr w b t))
theorem bW{W:World}{b:Nat}(h:Blk W b 57 (bR 0 0).cells.toArray):W.cell? ⟨b,0,none⟩=some (.int .i64 0)/\W.cell? ⟨b,1,none⟩=some (.int .i64 0)/\W.cell? ⟨b,2,none⟩=some (.int .i64 0)/\W.cell? ⟨b,3,none⟩=some (.int .i64 0)/\W.cell? ⟨b,4,none⟩=some (.int .i64 0)/\W.cell? ⟨b,5,none⟩=some (.int .i64 0)/\W.cell? ⟨b,6,none⟩=some (.int .i64 0)/\W.cell? ⟨b,7,none⟩=some (.int .i64 0)/\W.cell? ⟨b,8,none⟩=some (.slice none 0 0)/\W.cell? ⟨b,9,none⟩=some (.slice none 0 0)/\W.cell? ⟨b,10,none⟩=some (.slice none 0 0):=⟨h.cell 0,h.cell 1,h.cell 2,h.cell 3,h.cell 4,h.cell 5,h.cell 6,h.cell 7,h.cell 8,h.cell 9,h.cell 10⟩
theorem bS{W:World}{b:Nat}{cs:Array Value}(h:Blk W b 57 cs):W.frozen? ⟨b,0,none⟩=false/\W.frozen? ⟨b,1,none⟩=false/\W.frozen? ⟨b,2,none⟩=false/\W.frozen? ⟨b,3,none⟩=false/\W.frozen? ⟨b,4,none⟩=false/\W.frozen? ⟨b,5,none⟩=false/\W.frozen? ⟨b,6,none⟩=false/\W.frozen? ⟨b,7,none⟩=false/\W.frozen? ⟨b,8,none⟩=false/\W.frozen? ⟨b,9,none⟩=false/\W.frozen? ⟨b,10,none⟩=false:=⟨h.frozen 0,h.frozen 1,h.frozen 2,h.frozen 3,h.frozen 4,h.frozen 5,h.frozen 6,h.frozen 7,h.frozen 8,h.frozen 9,h.frozen 10⟩
section
variable {w w':World}{c:Cfg}{y:Lay}{S:WS}{K base:Nat}{ow:Nat->Tag}
theorem PW.own(h:PW w c y S K base ow){b:Nat}(ho:Only (λk=>k=b) w w')(hb:ow b= .no)(hlow:base<=b):PW w' c y S K base ow:=
 h.far ho (λk _ e=>by rw[e];exact hb) (λk hk e=>by omega)
theorem Turned.nobody{w1 w2:World}(h:PW w c y S K base ow)(hb:uR w w1){b:Nat}(ho:Only (λk=>k=b) w1 w2)(hq:w.heap.size<=b):Turned w c y S K base ow w2:=
 ⟨ow,(h.calm hb).own ho (h.fresh b hq) (qN h.bw hq),⟨(Only.of_below hb λx h1 h2=>by omega).trans ho (λx hx e=>by omega),λ_ _=>rfl⟩⟩
theorem Turned.own{w1 w2:World}(h:Turned w c y S K base ow w1){b:Nat}(ho:Only (λk=>k=b) w1 w2)(hb:w.heap.size<=b)(hno:∀ow',PW w1 c y S K base ow'->Kept w w1 ow ow'->ow' b= .no)(hbw:base<=w.heap.size):Turned w c y S K base ow w2:=by obtain⟨ow1,h1,h2⟩:=h;refine⟨ow1,h1.own ho (hno ow1 h1 h2) (by omega),⟨h2.only.trans ho (λx hx e=>by omega),h2.old⟩⟩
end
section
variable {w w':World}{c:Cfg}{y:Lay}{S:WS}{K base:Nat}{ow:Nat->Tag}
theorem Turned.mk_{w1 w2:World}{ow1:Nat->Tag}(hp:PW w1 c y S K base ow1)(hk:Kept w w1 ow ow1){b:Nat}(ho:Only (λk=>k=b) w1 w2)(hb:w.heap.size<=b)(hn:ow1 b= .no)(hw:base<=w.heap.size):Turned w c y S K base ow w2:=
 ⟨ow1,hp.own ho hn (qN hw hb),⟨hk.only.trans ho (λx hx e=>by omega),hk.old⟩⟩
end
def zJl(c:Cfg)(s:StpI):Prop:=s.label<0\/(c.ln:Int)<=s.label\/s.key<0\/8<=s.key\/(s.kind=7/\(s.count<0\/255<s.count))
section
variable {w:World}{c:Cfg}{y:Lay}{S:WS}{K base:Nat}{ow:Nat->Tag}
theorem yGd(h:PW w c y S K base ow)(s:StpI)(i:Nat)(hi:i<c.n)(hb:zJl c s):Calls prog 92 #[.pointer (some ⟨y.hb,0,none⟩),.pointer (some ⟨(y.br i).b,0,none⟩),s.val] w (fI w c y K base ow (zEd (fK c S s i).1,(fK c S s i).2)):=by
 have HE:=uT (show fK c S s i=(bY 2 i,S)from if_pos hb);obtain⟨kind,who,item,count,life,id,label,key⟩:=s;unfold zJl at hb;dsimp only at hb;unfold StpI.val;dsimp only;obtain⟨p,hp⟩:=kB w.heap.size;obtain⟨q,hq⟩:=kB (w.heap.size+1);obtain⟨wx,hwx⟩:=kB ((w.alloc (.cells #[.int .i64 kind,.int .i64 who,.int .i64 item,.int .i64 count,.int .i64 life,.int .i64 id,.int .i64 label,.int .i64 key] 48)).alloc (.cells (bR 0 0).cells.toArray 57));have hbx:uR w wx:=by rw[hwx];exact((qC _ _).alloc (qA _) _).alloc (by simp) _
 have kp:Blk wx p 48 #[.int .i64 kind,.int .i64 who,.int .i64 item,.int .i64 count,.int .i64 life,.int .i64 id,.int .i64 label,.int .i64 key]:=by rw[hwx,hp];exact(Blk.new w _ _).alloc _
 have kq:Blk wx q 57 (bR 0 0).cells.toArray:=by have h1:=Blk.new (w.alloc (.cells #[.int .i64 kind,.int .i64 who,.int .i64 item,.int .i64 count,.int .i64 life,.int .i64 id,.int .i64 label,.int .i64 key] 48)) 57 (bR 0 0).cells.toArray;rw[hwx,hq];simpa using h1
 have hx:=h.calm hbx;have HNO:=uT (λW=>gA 2 W);unfold bR bY Tol.val Stk.none at HNO;dsimp only at HNO;have c1:wx.cell? ⟨y.hb,1,none⟩=some (.slice c.la.A c.la.n c.la.c):=(hx.pc .con).blk.cell 1;have hln:c.la.n=c.ln:=hx.cfg.1.1.symm;rw[hln]at c1;have s0:wx.cell? ⟨p,0,none⟩=some (.int .i64 kind):=kp.cell 0;have s3:wx.cell? ⟨p,3,none⟩=some (.int .i64 count):=kp.cell 3;have s6:wx.cell? ⟨p,6,none⟩=some (.int .i64 label):=kp.cell 6;have s7:wx.cell? ⟨p,7,none⟩=some (.int .i64 key):=kp.cell 7;obtain⟨HKQ,HBX,HP,HQ,HH,HWX⟩:=uM kq hbx hp hq h hwx;clear hx kp kq hbx hp hq h hwx hln;go_enter func92,ntmps92;go_upto_region 1 with fail;rw[zAf,<-HWX.s,<-HQ.s,<-HP.s];have hd:(decide (label<0)=true)\/(decide (label<0)=false/\decide ((c.ln:Int)<=label)=true)\/(decide (label<0)=false/\decide ((c.ln:Int)<=label)=false/\decide (key<0)=true)\/
     (decide (label<0)=false/\decide ((c.ln:Int)<=label)=false/\decide (key<0)=false/\decide (8<=key)=true)\/
     (decide (label<0)=false/\decide ((c.ln:Int)<=label)=false/\decide (key<0)=false/\decide (8<=key)=false/\(kind==7)=true/\decide (count<0)=true)\/
     (decide (label<0)=false/\decide ((c.ln:Int)<=label)=false/\decide (key<0)=false/\decide (8<=key)=false/\(kind==7)=true/\decide (count<0)=false/\decide (255<count)=true):=by
  simp only[decide_eq_true_eq,decide_eq_false_iff_not,beq_iff_eq];omega
 clear hb;have HF:=uT (show∀W W3 WF:World,uR wx W->uR W W3->Only (λk=>k=q) W3 WF->fI w c y K base ow (zEd (fK c S ⟨kind,who,item,count,life,id,label,key⟩ i).1,(fK c S ⟨kind,who,item,count,life,id,label,key⟩ i).2) (.returned (bR 2 0).val) WF from λW W3 WF h1 h2 h3=>by have h4:=(HBX.s.trans (h1.mono HBX.s.size)).trans (h2.mono (qN HBX.s.size h1.size));exact zAe 2 HE.s (Turned.nobody HH.s h4 h3 (by rw[HQ.s];omega)))
 rcases hd with a1|⟨a1,a2⟩|⟨a1,a2,a3⟩|⟨a1,a2,a3,a4⟩|⟨a1,a2,a3,a4,a5,a6⟩|⟨a1,a2,a3,a4,a5,a6,a7⟩
 all_goals
  go_quiet (fail);obtain⟨HW,HK2⟩:=uI (below_drewN (qC wx.heap.size wx) nq) (HKQ.s.drewN nq);generalize wx.drewN nq=w2 at HW HK2⊢;clear c1 s0 s3 s6 s7;go_wp2_with fail;refine(HNO.s w2).mono ?_;rintro _ w3 ⟨rfl,hb3⟩;have k3:=HK2.s.below hb3 HK2.s.lt;obtain⟨_,_,_,_,_,_,_,_,_,_,_⟩:=bW k3;obtain⟨_,_,_,_,_,_,_,_,_,_,_⟩:=bS k3;obtain⟨HK3,HB3⟩:=uI k3 hb3;clear k3 hb3;go_wp2_with fail;change bodyPost _ _ _ _ _ (wrT w3 q (bR 2 0));have k4:=zFu HK3.s rfl (bR 2 0);have HO:=uT (zDr w3 q (bR 2 0));generalize wrT w3 q (bR 2 0)=w4 at k4 HO⊢;obtain⟨d0,d1,d2,d3,d4,d5,d6,d7,d8,d9,d10⟩:=dM k4;refine bodyPost_ret (v:=(bR 2 0).val) (by simp[results,Tryz.results92,go_sem,d0,d1,d2,d3,d4,d5,d6,d7,d8,d9,d10,Tol.val]) rfl (HF.s w2 w3 w4 HW.s HB3.s HO.s)
end
theorem zCy{w:World}{c:Cfg}{y:Lay}{S:WS}{K base:Nat}{ow:Nat->Tag}(h:PW w c y S K base ow)(kind who item count life id label key:Int):∃(wx:World) (p q:Nat),p=w.heap.size/\q=w.heap.size+1/\wx=(w.alloc (.cells #[.int .i64 kind,.int .i64 who,.int .i64 item,.int .i64 count,.int .i64 life,.int .i64 id,.int .i64 label,.int .i64 key] 48)).alloc (.cells (bR 0 0).cells.toArray 57)/\uR w wx/\ Blk wx p 48 #[.int .i64 kind,.int .i64 who,.int .i64 item,.int .i64 count,.int .i64 life,.int .i64 id,.int .i64 label,.int .i64 key]/\Blk wx q 57 (bR 0 0).cells.toArray/\PW wx c y S K base ow/\wx.cell? ⟨p,0,none⟩=some (.int .i64 kind)/\wx.cell? ⟨p,1,none⟩=some (.int .i64 who)/\wx.cell? ⟨p,2,none⟩=some (.int .i64 item)/\wx.cell? ⟨p,3,none⟩=some (.int .i64 count)/\wx.cell? ⟨p,4,none⟩=some (.int .i64 life)/\wx.cell? ⟨p,5,none⟩=some (.int .i64 id)/\wx.cell? ⟨p,6,none⟩=some (.int .i64 label)/\wx.cell? ⟨p,7,none⟩=some (.int .i64 key)/\ow q= .no/\ow p= .no:=by have hbx:uR w ((w.alloc (.cells #[.int .i64 kind,.int .i64 who,.int .i64 item,.int .i64 count,.int .i64 life,.int .i64 id,.int .i64 label,.int .i64 key] 48)).alloc (.cells (bR 0 0).cells.toArray 57)):=((qC _ _).alloc (qA _) _).alloc (by simp) _;have kp:Blk ((w.alloc (.cells #[.int .i64 kind,.int .i64 who,.int .i64 item,.int .i64 count,.int .i64 life,.int .i64 id,.int .i64 label,.int .i64 key] 48)).alloc (.cells (bR 0 0).cells.toArray 57)) w.heap.size 48 #[.int .i64 kind,.int .i64 who,.int .i64 item,.int .i64 count,.int .i64 life,.int .i64 id,.int .i64 label,.int .i64 key]:=(Blk.new w _ _).alloc _;have h1:=Blk.new (w.alloc (.cells #[.int .i64 kind,.int .i64 who,.int .i64 item,.int .i64 count,.int .i64 life,.int .i64 id,.int .i64 label,.int .i64 key] 48)) 57 (bR 0 0).cells.toArray;exact⟨_,_,_,rfl,rfl,rfl,hbx,kp,by simpa using h1,h.calm hbx,kp.cell 0,kp.cell 1,kp.cell 2,kp.cell 3,kp.cell 4,kp.cell 5,kp.cell 6,kp.cell 7,h.fresh _ (by omega),h.fresh _ (by omega)⟩
structure FrR where
 d:PoD
 A:Option Addr
 n:Nat
 c:Nat
 lost:Bool
 opened:Bool
def FrR.cells(f:FrR):List Value:=[.int .i64 f.d.fr,.int .i64 f.d.to_,.slice f.A f.n f.c,.bool f.lost,.bool f.opened]
theorem FrR.cells_len(f:FrR):f.cells.length=5:=rfl
def FrR.val(f:FrR):Value:= .slice f.A f.n f.c
structure Flags(fs:List FrR)(top:Int->Int->Int)(lost:Int->Bool):Prop where
 lost:∀(k:Nat) (f:FrR),fs[k]? =some f->f.lost=lost k
 below:∀(k:Nat) (f:FrR),fs[k]? =some f->f.opened=true->(k:Int)<top f.d.fr f.d.to_
 top:∀a b,0<top a b->∃(k:Nat) (f:FrR),fs[k]? =some f/\f.opened=true/\f.d.fr=a/\f.d.to_=b/\(k:Int)+1=top a b
structure fD where
 hb:Nat
 rb:Nat
 rc:Nat
 ab:Nat
 ac:Nat
 gb:Nat
 gc:Nat
 kb:Nat
 kc:Nat
 sb:Nat
 xb:Nat
 ib:Nat
 xc:Nat
 ic:Nat
 X:List Nat
 Y:List Nat
 r:Nat->Nat
 a:Nat->Nat
 g:Nat->Nat
 bg:Nat->Nat
def landC(c:Cfg)(y:fD)(v:Value):Array Value:=#[.int .i64 c.br,.slice c.la.A c.la.n c.la.c,.int .i64 c.tk,.slice c.mi.A c.mi.n c.mi.c,.int .i64 c.cap,.slice (some ⟨y.rb,0,none⟩) c.n y.rc,.slice (some ⟨y.ab,0,none⟩) c.n y.ac,.slice (some ⟨y.gb,0,none⟩) c.n y.gc,.pointer (some ⟨y.sb,0,none⟩),.slice (some ⟨y.kb,0,none⟩) c.m y.kc,v]
structure RCon(w:World)(c:Cfg)(y:fD)(own:Nat->Prop):Prop where
 rr:∃cs,Blk w y.rb 96 cs/\∀i,i<c.n->cs[i]? =some (.slice (some ⟨y.r i,0,none⟩) c.m c.m)
 ra:∃cs,Blk w y.ab 22 cs/\∀i,i<c.n->cs[i]? =some (.slice (some ⟨y.a i,0,none⟩) c.m c.m)
 rg:∃cs,Blk w y.gb 22 cs/\∀i,i<c.n->cs[i]? =some (.slice (some ⟨y.g i,0,none⟩) c.m c.m)
 bks:∃cs,Blk w y.kb 93 cs/\∀j,j<c.m->cs[j]? =some (.pointer (some ⟨y.bg j,0,none⟩))
 o:own y.rb/\own y.ab/\own y.gb/\own y.kb
def RkB(vc vl:Value)(b:Nat):Prop:=vc.ownBlock=some b\/vl.ownBlock=some b
structure RkRow(w:World)(base g m:Nat)(f:Nat->Shf)(K:Nat)(own:Nat->Prop):Prop where
 at_:∃cs,∃(rk:Nat->Rk) (vc vl:Nat->Value),(∀k,k<m->RkAt w base g (k*4) cs (rk k) (vc k) (vl k)/\(zIm (f k) (rk k)/\(rk k).ok K)/\∀b,RkB (vc k) (vl k) b->own b)/\∀k k',k<m->k'<m->k≠k'->∀b,RkB (vc k) (vl k) b->¬ RkB (vc k') (vl k') b
 o:own g
structure ShvRow(w:World)(base:Nat)(c:Cfg)(y:fD)(st:Nat->List (List Ent))(K:Nat)(own:Nat->Prop):Prop where
 at_:∃Q,ShvAt w base y.sb y.xb y.ib c.ln c.la.c c.n y.xc y.ic c.la.A y.X y.Y Q/\Goods K c.n c.ln Q/\plQ c.ln Q=(List.range c.n).map st
 o:own y.sb/\own y.xb/\own y.ib/\∀k,XY y.X y.Y k->own k
structure BrRow(w:World)(base g nb:Nat)(most ticks:Int)(s:BkS)(own:Nat->Prop):Prop where
 at_:∃(p:BrL) (r:BrS),p.g=g/\BrAt w base nb p most ticks r/\zBk ticks nb s r/\∀k,p.has k->own k
structure FrRow(w:World)(base:Nat)(c:Cfg)(y:fD)(l:List PoD)(top:Int->Int->Int)(lost:Int->Bool)(own:Nat->Prop):Prop where
 at_:∃(v:Value) (fs:List FrR),Blk w y.hb 92 (landC c y v)/\w.ownsRow base 146 5 v fs.length (fs.flatMap FrR.cells)/\fs.map (·.d)=l/\(∀f∈fs,w.ownsRow base 5 1 f.val f.n (f.d.data.map (.int .u8))/\∀k,f.val.ownBlock=some k->own k)/\Flags fs top lost/\∀k,v.ownBlock=some k->own k
 o:own y.hb
section
variable {w w':World}{base:Nat}{own own' D:Nat->Prop}
theorem RCon.only{c:Cfg}{y:fD}(h:RCon w c y own)(ho:Only D w w')(hD:∀k,k<w.heap.size->own k->¬ D k)(hw:∀k,k<w.heap.size->own k->own' k):RCon w' c y own':=by obtain⟨⟨c1,h1,g1⟩,⟨c2,h2,g2⟩,⟨c3,h3,g3⟩,⟨c4,h4,g4⟩,o1,o2,o3,o4⟩:=h;exact⟨⟨c1,h1.only ho (hD _ h1.lt o1),g1⟩,⟨c2,h2.only ho (hD _ h2.lt o2),g2⟩,⟨c3,h3.only ho (hD _ h3.lt o3),g3⟩,⟨c4,h4.only ho (hD _ h4.lt o4),g4⟩,hw _ h1.lt o1,hw _ h2.lt o2,hw _ h3.lt o3,hw _ h4.lt o4⟩
theorem RkAt.ltB{g o:Nat}{cs:Array Value}{r:Rk}{vc vl:Value}(h:RkAt w base g o cs r vc vl){b:Nat}(hb:RkB vc vl b):b<w.heap.size:=h.lt b (.inr hb)
theorem RkRow.only{g m K:Nat}{f:Nat->Shf}(h:RkRow w base g m f K own)(hm:0<m)(ho:Only D w w')(hD:∀k,k<w.heap.size->own k->¬ D k)(hw:∀k,k<w.heap.size->own k->own' k):RkRow w' base g m f K own':=by
 obtain⟨⟨cs,rk,vc,vl,h1,h2⟩,o⟩:=h;have hg:=(h1 0 hm).1.blk.lt;refine⟨⟨cs,rk,vc,vl,λk hk=> ?_,h2⟩,hw _ hg o⟩;obtain⟨h3,h4,h5⟩:=h1 k hk;exact⟨h3.only ho λb hb=>by
  rcases hb with rfl|hb
  ·exact hD _ hg o
  ·exact hD b (h3.ltB hb) (h5 b hb),h4,λb hb=>hw b (h3.ltB hb) (h5 b hb)⟩
theorem ShvRow.only{c:Cfg}{y:fD}{st:Nat->List (List Ent)}{K:Nat}(h:ShvRow w base c y st K own)(ho:Only D w w')(hD:∀k,k<w.heap.size->own k->¬ D k)(hw:∀k,k<w.heap.size->own k->own' k):ShvRow w' base c y st K own':=by
 obtain⟨⟨Q,h1,h2,h3⟩,o1,o2,o3,o4⟩:=h;have hx:=h1.rowx;have hy:=h1.rowy;refine⟨⟨Q,⟨h1.n8,h1.m8,h1.xm,h1.ym,h1.qm,h1.cap,h1.shelves.only ho (hD _ h1.shelves.lt o1),?_,?_,λj x z q hX hY hq=> ?_,h1.ndx,h1.ndy,h1.low⟩,h2,h3⟩,hw _ h1.shelves.lt o1,?_,?_,λk hk=>hw k (XY.ge h1 hk).2.1 (o4 k hk)⟩
 ·obtain⟨cs,hb,hc⟩:=hx;exact⟨cs,hb.only ho (hD _ hb.lt o2),hc⟩
 ·obtain⟨cs,hb,hc⟩:=hy;exact⟨cs,hb.only ho (hD _ hb.lt o3),hc⟩
 ·have h4:=h1.st j x z q hX hY hq;exact h4.only ho (hD _ h4.ents.lt (o4 _ (.inl (qB hX)))) (hD _ h4.bits.lt (o4 _ (.inr (qB hY))))
 ·obtain⟨cs,hb,hc⟩:=hx;exact hw _ hb.lt o2
 ·obtain⟨cs,hb,hc⟩:=hy;exact hw _ hb.lt o3
theorem BrRow.only{g nb:Nat}{most ticks:Int}{s:BkS}(h:BrRow w base g nb most ticks s own)(ho:Only D w w')(hD:∀k,k<w.heap.size->own k->¬ D k)(hw:∀k,k<w.heap.size->own k->own' k):BrRow w' base g nb most ticks s own':=by obtain⟨p,r,h1,h2,h3,h4⟩:=h.at_;exact⟨⟨p,r,h1,h2.only ho (λk hk=>hD _ (h2.lt k hk) (h4 k hk)),h3,λk hk=>hw _ (h2.lt k hk) (h4 k hk)⟩⟩
theorem FrRow.only{c:Cfg}{y:fD}{l:List PoD}{top:Int->Int->Int}{lost:Int->Bool}(h:FrRow w base c y l top lost own)(ho:Only D w w')(hD:∀k,k<w.heap.size->own k->¬ D k)(hw:∀k,k<w.heap.size->own k->own' k):FrRow w' base c y l top lost own':=by obtain⟨⟨v,fs,h1,h2,h3,h4,h5,h6⟩,o⟩:=h;exact⟨⟨v,fs,h1.only ho (hD _ h1.lt o),bL h2 ho (λk hk=>hD _ (h2.lt k hk).2 (h6 k hk)),h3,λf hf=>⟨bL (h4 f hf).1 ho (λk hk=>hD _ ((h4 f hf).1.lt k hk).2 ((h4 f hf).2 k hk)),λk hk=>hw _ ((h4 f hf).1.lt k hk).2 ((h4 f hf).2 k hk)⟩,h5,λk hk=>hw _ (h2.lt k hk).2 (h6 k hk)⟩,hw _ h1.lt o⟩
end
def RPc(c:Cfg)(y:fD)(S:WS)(K base:Nat):Tag->World->(Nat->Prop)->Prop
 | .con,w,own=>RCon w c y own
 | .sh i,w,own=>i<c.n->RkRow w base (y.r i) c.m (S.sh i) K own
 | .ask i,w,own=>i<c.n->NumRow w base (y.a i) (S.ask i) own
 | .gn i,w,own=>i<c.n->NumRow w base (y.g i) (S.gn i) own
 | .str i,w,own=>i=0->ShvRow w base c y S.st K own
 | .bk j,w,own=>j<c.m->BrRow w base (y.bg j) c.n c.cap c.tk (S.bk j) own
 | .off,w,own=>FrRow w base c y S.lts S.top S.lost own
 |_,_,_=>True
theorem RPc.only{c:Cfg}{y:fD}{S:WS}{K base:Nat}{w w':World}{own own' D:Nat->Prop}(hm:0<c.m)(t:Tag)(h:RPc c y S K base t w own)(ho:Only D w w')(hD:∀k,k<w.heap.size->own k->¬ D k)(hw:∀k,k<w.heap.size->own k->own' k):RPc c y S K base t w' own':=by
 cases t with
 |no=>trivial
 |con=>exact RCon.only h ho hD hw
 |sh i=>exact λhi=>(h hi).only hm ho hD hw
 |ask i=>exact λhi=>(h hi).only ho hD hw
 |gn i=>exact λhi=>(h hi).only ho hD hw
 |str i=>exact λhi=>(h hi).only ho hD hw
 |bk j=>exact λhj=>(h hj).only ho hD hw
 |off=>exact FrRow.only h ho hD hw
 |lst=>trivial
structure RW(w:World)(c:Cfg)(y:fD)(S:WS)(K base:Nat)(ow:Nat->Tag):Prop where
 pc:∀t,RPc c y S K base t w (λk=>ow k=t)
 low:∀k,ow k≠ .no->base<=k
 fresh:∀k,w.heap.size<=k->ow k= .no
 cfg:c.ok w base
 may:bG c=true
 bw:base<=w.heap.size
section
variable {w w':World}{c:Cfg}{y:fD}{S S':WS}{K K' base:Nat}{ow ow':Nat->Tag}{D:Nat->Prop}
theorem RW.m0(h:RW w c y S K base ow):0<c.m:=(bK h.may).2.2.2.1.1
theorem RW.far(h:RW w c y S K base ow)(ho:Only D w w')(hD:∀k,k<w.heap.size->D k->ow k= .no)(hDb:∀k,k<base->¬ D k):RW w' c y S K base ow:=by
 refine⟨λt=> ?_,h.low,λk hk=>h.fresh k (qN ho.size hk),h.cfg.below (ho.to_below (λx hx _=>hDb x hx) h.bw),h.may,qN h.bw ho.size⟩;cases t with
 |no=>trivial
 |_=>exact RPc.only h.m0 _ (h.pc _) ho (λk hk hk2 hk3=>by have:=hD k hk hk3;rw[this]at hk2;cases hk2) (λk _ hk=>hk)
theorem RW.calm(h:RW w c y S K base ow)(hb:uR w w'):RW w' c y S K base ow:=
 h.far (D:=λk=>w.heap.size<=k) (Only.of_below hb λ_ _ h=>h) (λk hk hk2=>by omega) (λk hk hk2=>by have:=h.bw;omega)
theorem RW.turn(t:Tag)(F:Nat->Bool)(h:RW w c y S K base ow)(ht:t≠ .no)(ho:Only D w w')(hD:∀k,k<w.heap.size->D k->ow k=t)(hS:∀u,u≠t->∀W own,RPc c y S K base u W own->RPc c y S' K' base u W own)(hn:RPc c y S' K' base t w' λk=>zAa ow w w' t F k=t):RW w' c y S' K' base (zAa ow w w' t F):=by
 refine⟨λu=> ?_,λk hk=> ?_,λk hk=> ?_,h.cfg.below (ho.to_below (λx hx hx2 hx3=> ?_) h.bw),h.may,qN h.bw ho.size⟩
 ·by_cases hu:u=t
  ·subst hu;exact hn
  ·refine hS u hu _ _ (RPc.only h.m0 u (h.pc u) ho (λk hk h1 h2=>hu ?_) λk hk h1=> ?_)
   ·rw[<-h1,hD k hk h2]
   ·show zAa ow w w' t F k=u;unfold zAa;rw[if_pos hk];exact h1
 ·unfold zAa at hk
  split at hk
  ·exact h.low k hk
  ·have:=h.bw;omega
 ·unfold zAa;have:=ho.size;rw[if_neg (by omega),if_neg (by omega)]
 ·have:=h.low x (by rw[hD x hx2 hx3];exact ht);omega
theorem Kept.belowR(h:Kept w w' ow ow')(hw:RW w c y S K base ow):Below base w w':=h.only.to_below (λx hx hx2 hx3=>by have:=hw.low x hx3;omega) hw.bw
theorem RW.more{L:Nat}(h:RW w c y S K base ow)(hL:K<=L):RW w c y S L base ow:=by
 refine⟨λt=> ?_,h.low,h.fresh,h.cfg,h.may,h.bw⟩;have:=h.pc t;cases t with
 |sh i=>intro hi;obtain⟨⟨cs,rk,vc,vl,h1,h2⟩,o⟩:=this hi;exact⟨⟨cs,rk,vc,vl,λk hk=>⟨(h1 k hk).1,⟨(h1 k hk).2.1.1,{(h1 k hk).2.1.2 with len:=qN (h1 k hk).2.1.2.len hL}⟩,(h1 k hk).2.2⟩,h2⟩,o⟩
 |str i=>intro hi;obtain⟨⟨Q,h1,h2,h3⟩,o⟩:=this hi;exact⟨⟨Q,h1,h2.mono (by omega),h3⟩,o⟩
 |_=>exact this
theorem RW.congr(h:RW w c y S K base ow)(h1:∀i k,i<c.n->k<c.m->S'.sh i k=S.sh i k)(h2:S'.ask=S.ask)(h3:S'.gn=S.gn)(h4:S'.st=S.st)(h5:∀j,j<c.m->S'.bk j=S.bk j)(h6:S'.lts=S.lts)(h7:S'.top=S.top)(h8:S'.lost=S.lost):RW w c y S' K base ow:=by
 refine⟨λt=> ?_,h.low,h.fresh,h.cfg,h.may,h.bw⟩;have:=h.pc t;cases t with
 |sh i=>intro hi;obtain⟨⟨cs,rk,vc,vl,g1,g2⟩,o⟩:=this hi;exact⟨⟨cs,rk,vc,vl,λk hk=>by rw[h1 i k hi hk];exact g1 k hk,g2⟩,o⟩
 |ask i=>intro hi;show NumRow _ _ _ (S'.ask i) _;rw[h2];exact this hi
 |gn i=>intro hi;show NumRow _ _ _ (S'.gn i) _;rw[h3];exact this hi
 |str i=>intro hi;show ShvRow _ _ _ _ S'.st _ _;rw[h4];exact this hi
 |bk j=>intro hj;show BrRow _ _ _ _ _ _ (S'.bk j) _;rw[h5 j hj];exact this hj
 |off=>show FrRow _ _ _ _ S'.lts S'.top S'.lost _;rw[h6,h7,h8];exact this
 |_=>exact this
def TurnR(w:World)(c:Cfg)(y:fD)(S':WS)(K base:Nat)(ow:Nat->Tag)(w':World):Prop:=∃ow',RW w' c y S' K base ow'/\Kept w w' ow ow'
end
def WS.tkTo(S:WS)(m a b:Nat):WS:={S with sh:=λi k=>if i<a/\k<m\/i=a/\k<b then((S.sh i k).does zEe).1 else S.sh i k}
theorem zUf(S:WS)(m:Nat):S.tkTo m 0 0=S:=by unfold WS.tkTo;simp
theorem zVp(S:WS)(m a b:Nat):S.tkTo m a (b+1)={S.tkTo m a b with sh:=bN (S.tkTo m a b).sh a (bN ((S.tkTo m a b).sh a) b (((S.tkTo m a b).sh a b).does zEe).1)}:=by
 have h0:(S.tkTo m a b).sh a b=S.sh a b:=if_neg (by omega);have h:(S.tkTo m a (b+1)).sh=bN (S.tkTo m a b).sh a (bN ((S.tkTo m a b).sh a) b (((S.tkTo m a b).sh a b).does zEe).1):=by
  funext i k
  rw[h0,zBq];show(if i<a/\k<m\/i=a/\k<b+1 then _ else _)=_;by_cases hi:i=a
  ·subst hi;rw[if_pos rfl,zBq];by_cases hk:k=b
   ·subst hk;rw[if_pos (by omega),if_pos rfl]
   ·rw[if_neg hk];show _=(if i<i/\k<m\/i=i/\k<b then _ else _);by_cases hb:k<b
    ·rw[if_pos (by omega),if_pos (by omega)]
    ·rw[if_neg (by omega),if_neg (by omega)]
  ·rw[if_neg hi];show _=(if i<a/\k<m\/i=a/\k<b then _ else _);by_cases hb:i<a/\k<m
   ·rw[if_pos (by omega),if_pos (by omega)]
   ·rw[if_neg (by omega),if_neg (by omega)]
 show WS.mk _ _ _ _ _ _ _ _=_;rw[<-h];rfl
theorem zZz(S:WS)(m a:Nat):S.tkTo m a m=S.tkTo m (a+1) 0:=by
 unfold WS.tkTo
 congr 1
 funext i k
 by_cases h:i<a/\k<m\/i=a/\k<m
 ·rw[if_pos h,if_pos (by omega)]
 ·rw[if_neg h,if_neg (by omega)]
theorem zOz(c:Cfg)(S:WS)(i k:Nat):zAv c S i (k+1)=if k=i then zAv c S i k else zAv c S i k++[⟨i,k,(bT c i k (S.st i)).1⟩]:=by
 unfold zAv;rw[List.range_succ,List.filter_append];by_cases h:k=i
 ·subst h;rw[if_pos rfl];simp
 ·rw[if_neg h];simp[h]
theorem zNk(c:Cfg)(S:WS)(k:Nat):cA c S (k+1)=cA c S k++zOi c S k:=by unfold cA;rw[List.range_succ,jN];simp
theorem zMe(c:Cfg)(S:WS)(k:Nat):dW c S (k+1)=dW c S k++[⟨c.n,k,(fQ c (fO c S c.m k)).1⟩]:=by unfold dW;rw[List.range_succ,jA];rfl
theorem zOb(c:Cfg)(S:WS)(k who:Nat):fO c S (k+1) who=fO c S k who++[(zIp c S k).getD who 0]:=by unfold fO;rw[List.range_succ,jA];rfl
theorem zKx(c:Cfg)(S:WS)(k:Nat):dJ c S (k+1)=if 0<=zBt c S k then dJ c S k++[zBt c S k]else dJ c S k:=by
 unfold dJ;rw[List.range_succ,List.filterMap_append];by_cases h:0<=zBt c S k
 ·rw[if_pos h];simp[h]
 ·rw[if_neg h];simp[h]
theorem yBj(S:WS)(a b:List PoD):(S.posts a).posts b=S.posts (a++b):=by unfold WS.posts;dsimp only;rw[jK]
theorem zUe(S:WS):S.posts []=S:=by unfold WS.posts;rw[jR]
theorem yFi(a:List PoD)(p:PoD)(k:Nat):zGw k (a++[p])=zGw k a++[⟨((k+a.length:Nat):Int),p.fr,p.to_,p.data.length⟩]:=by rw[zOx];rfl
section
variable {w w':World}{c:Cfg}{y:fD}{S:WS}{K base:Nat}{ow:Nat->Tag}
theorem RW.turnSh(h:RW w c y S K base ow){i:Nat}(F:Nat->Bool){x:Nat->Shf}{D:Nat->Prop}(ho:Only D w w')(hD:∀k,k<w.heap.size->D k->ow k= .sh i)(hn:i<c.n->RkRow w' base (y.r i) c.m x K λk=>zAa ow w w' (.sh i) F k= .sh i):TurnR w c y {S with sh:=bN S.sh i x} K base ow w':=by
 refine⟨_,h.turn (.sh i) F (by simp) ho hD (λu hu W own hp=> ?_) ?_,Kept.turn _ _ (by simp) ho hD⟩
 ·cases u with
  |sh j=>
   have hji:j≠i:=λe=>hu (by rw[e])
   show j<c.n->RkRow W base (y.r j) c.m (bN S.sh i _ j) K own;rw[cQ _ _ hji];exact hp
  |_=>exact hp
 ·intro hi;show RkRow w' base (y.r i) c.m (bN S.sh i _ i) K _;rw[dD];exact hn hi
theorem RW.turnBk(h:RW w c y S K base ow){j:Nat}(F:Nat->Bool){x:BkS}{D:Nat->Prop}(ho:Only D w w')(hD:∀k,k<w.heap.size->D k->ow k= .bk j)(hn:j<c.m->BrRow w' base (y.bg j) c.n c.cap c.tk x λk=>zAa ow w w' (.bk j) F k= .bk j):RW w' c y {S with bk:=bN S.bk j x} K base (zAa ow w w' (.bk j) F)/\Kept w w' ow (zAa ow w w' (.bk j) F):=by
 refine⟨h.turn (.bk j) F (by simp) ho hD (λu hu W own hp=> ?_) ?_,Kept.turn _ _ (by simp) ho hD⟩
 ·cases u with
  |bk i=>
   have hji:i≠j:=λe=>hu (by rw[e])
   show i<c.m->BrRow W base (y.bg i) c.n c.cap c.tk (bN S.bk j _ i) own;rw[cQ _ _ hji];exact hp
  |_=>exact hp
 ·intro hj;show BrRow w' base (y.bg j) c.n c.cap c.tk (bN S.bk j _ j) _;rw[dD];exact hn hj
theorem RW.setNum(h:RW w c y S K base ow){i k g:Nat}(t:Tag){zs:List Int}{S':WS}{x:Int}(hr:NumRow w base g zs λk=>ow k=t)(hk:k<zs.length)(ht:t≠ .no)(hS:∀u,u≠t->∀W own,RPc c y S K base u W own->RPc c y S' K base u W own)(hn:∀W own,NumRow W base g (zs.set k x) own->RPc c y S' K base t W own):TurnR w c y S' K base ow (w.setCell ⟨g,k,none⟩ (.int .i64 x)):=by
 have ho:Only (λb=>b=g) w (w.setCell ⟨g,k,none⟩ (.int .i64 x)):=bJ (Only.refl _ w) k _;have hD:∀b,b<w.heap.size->b=g->ow b=t:=λb _ e=>by rw[e];exact hr.o
 exact⟨_,h.turn t (λ_=>false) ht ho hD hS (hn _ _ ⟨IRow.set_ hr.row hk x,hr.low,by rw[cV (Blk.lt hr.row)];exact hr.o⟩),Kept.turn _ _ ht ho hD⟩
theorem RW.setGn(h:RW w c y S K base ow){i k:Nat}(hi:i<c.n)(hk:k<(S.gn i).length)(x:Int):TurnR w c y {S with gn:=bN S.gn i ((S.gn i).set k x)} K base ow (w.setCell ⟨y.g i,k,none⟩ (.int .i64 x)):=by
 refine h.setNum (i:=i) (.gn i) (h.pc (.gn i) hi) hk (by simp) (λu hu W own hp=> ?_) (λW own hp _=>by show NumRow _ _ _ (bN S.gn i _ i) _;rw[dD];exact hp);cases u with
 |gn j=>show j<c.n->NumRow W base (y.g j) (bN S.gn i _ j) own;rw[cQ _ _ λe=>hu (by rw[e])];exact hp
 |_=>exact hp
theorem RW.setAsk(h:RW w c y S K base ow){i k:Nat}(hi:i<c.n)(hk:k<(S.ask i).length)(x:Int):TurnR w c y {S with ask:=bN S.ask i ((S.ask i).set k x)} K base ow (w.setCell ⟨y.a i,k,none⟩ (.int .i64 x)):=by
 refine h.setNum (i:=i) (.ask i) (h.pc (.ask i) hi) hk (by simp) (λu hu W own hp=> ?_) (λW own hp _=>by show NumRow _ _ _ (bN S.ask i _ i) _;rw[dD];exact hp);cases u with
 |ask j=>show j<c.n->NumRow W base (y.a j) (bN S.ask i _ j) own;rw[cQ _ _ λe=>hu (by rw[e])];exact hp
 |_=>exact hp
theorem zNf(od:Ordr)(i k:Nat)(h:RW w c y S K base ow)(hi:i<c.n)(hk:k<c.m)(L:Int)(hs:(S.sh i k).ok L)(hK:K<=1000000-1){K':Nat}(hKK:K<=K')(hgo:∀r:Rk,r.ok K->(r.does od).1.ok K'):Calls prog 47 #[.pointer (some ⟨y.r i,k*4,none⟩),od.val] w λe w'=>e= .returned ((S.sh i k).does od).2.val/\TurnR w c y {S with sh:=bN S.sh i (bN (S.sh i) k ((S.sh i k).does od).1)} K' base ow w':=by
 have h':=h.more hKK;obtain⟨⟨cs,rk,vc,vl,h1,h2⟩,o⟩:=h'.pc (.sh i) hi;obtain⟨⟨cs0,rk0,vc0,vl0,g1,g2⟩,o0⟩:=h.pc (.sh i) hi;obtain⟨ha,⟨hsm,hok⟩,hv⟩:=g1 k hk;obtain⟨e1,e2⟩:=yGl hsm hs od;rw[e2];refine(zVy base _ (k*4) cs0 (rk0 k) (vc0 k) (vl0 k) w od K ha hok hK h.bw).mono ?_;rintro e w' ⟨vc',vl',rfl,hx,ho,hf⟩;refine⟨rfl,h'.turnSh (λ_=>true) (D:=RkD (y.r i) (vc0 k) (vl0 k)) ho (λb hb hd=> ?_) λ_=> ?_⟩
 ·rcases hd with rfl|hd
  ·exact o0
  ·exact hv b hd
 have hlen:∀(r:Rk) (a b:Value),(r.cells a b).length=4:=λ_ _ _=>rfl
 have hok':((rk0 k).does od).1.ok K':=hgo _ hok;have hnew:∀b,RkB vc' vl' b->RkB (vc0 k) (vl0 k) b\/w.heap.size<=b:=λb hb=>by
  rcases hf b (.inr hb)with h3|h3
  ·rcases h3 with rfl|h3
   ·exfalso
    rcases hb with hb|hb
    ·exact hx.nc hb
    ·exact hx.nl hb
   ·exact .inl h3
  ·exact .inr h3
 refine⟨⟨putAt cs0 (k*4) (((rk0 k).does od).1.cells vc' vl'),bN rk0 k ((rk0 k).does od).1,bN vc0 k vc',bN vl0 k vl',λj hj=> ?_,λj j' hj hj' hne b hb=> ?_⟩,by rw[cV ha.blk.lt];exact o0⟩
 ·by_cases hjk:j=k
  ·subst hjk;rw[dD,dD,dD,dD];refine⟨hx,⟨e1,hok'⟩,λb hb=> ?_⟩;rcases hnew b hb with h3|h3
   ·rw[cV (ha.ltB h3)];exact hv b h3
   ·exact zCo h3 (hx.ltB hb) rfl
  ·rw[cQ _ _ hjk,cQ _ _ hjk,cQ _ _ hjk,cQ _ _ hjk];obtain⟨hb1,⟨hb2,hb3⟩,hb4⟩:=g1 j hj;have hap:∀b,RkB (vc0 j) (vl0 j) b->¬ RkD (y.r i) (vc0 k) (vl0 k) b:=λb hb hd=>by
    rcases hd with rfl|hd
    ·rcases hb with hb|hb
     ·exact hb1.nc hb
     ·exact hb1.nl hb
    ·exact g2 j k hj hk hjk b hb hd
   exact⟨⟨hx.blk,zVj hb1.has (by rw[hlen,hlen];omega),bL hb1.oc ho λb hb=>hap b (.inl hb),bL hb1.ol ho λb hb=>hap b (.inr hb),hb1.ne⟩,⟨hb2,{hb3 with len:=qN hb3.len hKK}⟩,λb hb=>by rw[cV (hb1.ltB hb)];exact hb4 b hb⟩
 ·by_cases hjk:j=k
  ·subst hjk;rw[dD,dD]at hb;rw[cQ _ _ (λe=>hne e.symm),cQ _ _ λe=>hne e.symm];rcases hnew b hb with h3|h3
   ·exact g2 j j' hj hj' hne b h3
   ·exact λe=>by have:=(g1 j' hj').1.ltB e;omega
  ·rw[cQ _ _ hjk,cQ _ _ hjk]at hb;by_cases hjk':j'=k
   ·subst hjk';rw[dD,dD];intro e;rcases hnew b e with h3|h3
    ·exact g2 j j' hj hj' hne b hb h3
    ·have:=(g1 j hj).1.ltB hb;omega
   ·rw[cQ _ _ hjk',cQ _ _ hjk'];exact g2 j j' hj hj' hne b hb
theorem rk_same(r:Rk)(o:Ordr)(hk:o.kind≠3):(r.does o).1.rows.length=r.rows.length:=by
 show(r.order o).1.rows.length=_;unfold Rk.order
 repeat' split
 all_goals first|rfl|(exfalso;omega)|simp
theorem zYd(o:Ordr)(hk:o.kind≠3){K:Nat}(r:Rk)(h:r.ok K):(r.does o).1.ok K:={zLj h o with len:=by rw[rk_same r o hk];exact h.len}
def yFj(w:World)(c:Cfg)(y:fD)(S':WS)(K base:Nat)(ow:Nat->Tag)(l:List Int)(r:Int)(e:Ending)(w':World):Prop:=
 ∃(A:Option Addr) (cc:Nat) (ow':Nat->Tag),e= .returned (.tuple #[.slice A c.n cc,.int .i64 r])/\w'.ownsRow w.heap.size 3 1 (.slice A c.n cc) c.n (l.map (.int .i64))/\RW w' c y S' K base ow'/\Kept w w' ow ow'/\∀q,(Value.slice A c.n cc).ownBlock=some q->ow' q= .no
end
theorem zPo:∀(l:List Ent) (p:Option Int) (k:Nat),dO l p=true->dO (l.take k) p=true
 |[],_,_,_=>by simp[dO]
 |e::l,p,0,_=>by simp[dO]
 |e::l,p,k+1,h=>by rw[dO,qT]at h;rw[qX,dO,qT];exact⟨h.1,zPo l _ k h.2⟩
theorem zUw{l:List Ent}(h:bU l=true)(k:Nat):bU (l.take k)=true:=by unfold bU at h⊢;rw[qT,decide_eq_true_eq]at h⊢;exact⟨zPo l none k h.1,by rw[qY];omega⟩
theorem zNi:∀(l:List Ent) (p:Option Int) (k:Nat) (e:Ent),dO l p=true->l[k]? =some e->bU [e]=true
 |x::l,p,0,e,h,hk=>by simp at hk;subst hk;rw[dO,qT,qT]at h;unfold bU;simp[dO,h.1.1,above]
 |x::l,p,k+1,e,h,hk=>by rw[dO,qT]at h;exact zNi l _ k e h.2 (by simpa using hk)
theorem yCx{T:Int}{a:List Slot}{b:List Ent}{k:Nat}{e:Ent}(ha:Keyed T 0 a)(hT:T<=1048576)(la:a.length=8)(hb:bU b=true)(hbe:∀e∈b,e.key<8/\EntOk T e)(hk:b[k]? =some e):(dY (dY (lsS a) (b.take k)).1 [e]).1=(dY (lsS a) (b.take (k+1))).1:=by obtain⟨h1,h2,h3⟩:=zJf ha hT la (zUw hb k) (λx hx=>hbe x (List.mem_of_mem_take hx));have hm1:bU [e]=true:=zNi b none k e (by unfold bU at hb;rw[qT]at hb;exact hb.1) hk;obtain⟨g1,_,_⟩:=zJf h2 hT h3 hm1 (λx hx=>by rw[jJ]at hx;subst hx;exact hbe x (qB hk));obtain⟨f1,_,_⟩:=zJf ha hT la (zUw hb (k+1)) (λx hx=>hbe x (List.mem_of_mem_take hx));rw[h1,g1,f1,dB b k e hk,List.foldl_append]
theorem zVm{c:Cfg}{st:Nat->List (List Ent)}{i l:Nat}{x:List Ent}(hi:i<c.n):setP ((List.range c.n).map st) i l x=(List.range c.n).map (bN st i ((st i).set l x)):=by
 unfold setP;have e:((List.range c.n).map st)[i]? =some (st i):=by rw[qV,List.getElem?_range hi];rfl
 rw[e];refine List.ext_getElem? λj=> ?_
 rw[List.getElem?_set,qQ,List.length_range,qV,qV];by_cases hj:i=j
 ·subst hj;rw[if_pos rfl,if_pos hi,List.getElem?_range hi];simp[dD]
 ·rw[if_neg hj];by_cases hjn:j<c.n
  ·rw[List.getElem?_range hjn];simp[cQ _ _ λe=>hj e.symm]
  ·rw[qU (by simpa using hjn)];rfl
theorem zOc{c:Cfg}{st:Nat->List (List Ent)}{i l:Nat}(hi:i<c.n):rowP ((List.range c.n).map st) i l=(st i).getD l []:=by unfold rowP;rw[qV,List.getElem?_range hi];rw[qG];rfl
theorem row_of{c:Cfg}{st:Nat->List (List Ent)}{Q:List (List Slot)}{i l:Nat}{q:List Slot}(hP:plQ c.ln Q=(List.range c.n).map st)(hq:Q[i]? =some q)(hi:i<c.n)(hl:l<c.ln):lsS (fS q l)=(st i).getD l []:=by rw[<-zQf hq hl,hP,zOc hi]
theorem fv_num(v n:Nat)(hv:v<2^n)(f:Nat->Nat)(s:Nat)(hf:∀j,j<n->f (s+j)=v/2^(n-1-j)%2):fv f s n=v:=by
 have key:∀m,m<=n->fv f s m=v/2^(n-m):=by
  intro m
  induction m with
  |zero=>intro _;rw[fv,Nat.sub_zero];exact(Nat.div_eq_of_lt hv).symm
  |succ m ih=>intro h;rw[fv,ih (by omega),hf m (by omega),show n-1-m=n-(m+1)by omega,show n-m=(n-(m+1))+1 by omega,Nat.pow_succ,<-Nat.div_div_eq_div_mul];omega
 have:=key n (qA _)
 rwa[Nat.sub_self,Nat.pow_zero,Nat.div_one]at this
theorem yEl(W:Nat)(fs:List (Int×Int))(h:∀f∈fs,f.1=(W:Int))(k j:Nat)(f:Int×Int)(hk:fs[k]? =some f)(hj:j<W):(bH fs).getD (W*k+j) 0=f.2.toNat/2^(W-1-j)%2:=by
 have e:bH fs=(fs.map cT).flatten:=by unfold bH;rw[List.flatMap_def]
 rw[e,qG,Nat.mul_comm W k,zDw W (fs.map cT) (λcs hcs=>by obtain⟨g,hg,rfl⟩:=jC.1 hcs;rw[gP,h g hg];rfl) k j hj,qV,hk]
 have hf:=h f (qB hk);have:=zHx f j (by rw[hf];exact hj);simp only[Option.map_some,Option.bind_some];rw[this,hf];rfl
theorem yGs(W:Nat)(fs:List (Int×Int))(h:∀f∈fs,f.1=(W:Int))(n k:Nat)(f:Int×Int)(hk:fs[k]? =some f)(hv:f.2.toNat<2^W)(hn:W*fs.length<=8*n):fv (bZ (bytesOf (bH fs) n)) (W*k) W=f.2.toNat:=by
 have hkl:=(qK.1 hk).1;refine fv_num _ _ hv _ _ λj hj=> ?_
 have:W*k+W<=W*fs.length:=by have:=Nat.mul_le_mul_left W (show k+1<=fs.length by omega);rw[Nat.mul_add,Nat.mul_one]at this;exact this
 rw[zPk _ (zBw _) n _ (by omega)];exact yEl W fs h k j f hk hj
theorem zRt:∀(a b:List Ent),zBa a->zBa b->(∀e,e∈a↔e∈b)->a=b
 |[],[],_,_,_=>rfl
 |[],y::b,_,_,h=>absurd ((h y).2 (by simp)) (by simp)
 |x::a,[],_,_,h=>absurd ((h x).1 (by simp)) (by simp)
 |x::a,y::b,ha,hb,h=>by
  have h1:=List.pairwise_cons.1 ha;have h2:=List.pairwise_cons.1 hb;have hxy:x=y:=by
   rcases jD.1 ((h x).1 (by simp))with e|e
   ·exact e
   ·rcases jD.1 ((h y).2 (by simp))with e2|e2
    ·exact e2.symm
    ·have:=h1.1 y e2;have:=h2.1 x e;omega
  subst hxy;rw[zRt a b h1.2 h2.2 λe=>⟨λhe=> ?_,λhe=> ?_⟩]
  ·rcases jD.1 ((h e).1 (by simp[he]))with e2|e2
   ·have:=h1.1 e he;rw[e2]at this;omega
   ·exact e2
  ·rcases jD.1 ((h e).2 (by simp[he]))with e2|e2
   ·have:=h2.1 e he;rw[e2]at this;omega
   ·exact e2
theorem zZc:∀{l:List Ent},zBa l->∀{e:Ent},e∈l->zBs l e.key=some e
 |[],_,e,he=>by cases he
 |x::l,h,e,he=>by
  have h1:=List.pairwise_cons.1 h;unfold zBs;rcases jD.1 he with rfl|he
  ·simp
  ·have:=h1.1 e he;rw[List.find?_cons_of_neg (by simp;omega)];exact zZc h1.2 he
theorem yGn{e:Ent}{k:Nat}(h:zDb e)(hk:e.key=k):zAq k (zAo e)=e/\isN (zAo e)=true:=by
 obtain⟨⟨v0,v1⟩,⟨t0,t1⟩,w0,w1⟩:=h;obtain⟨key,value,time,who,gone⟩:=e;dsimp only at hk v0 v1 t0 t1 w0 w1;obtain⟨v,rfl⟩:=qP v0;obtain⟨t,rfl⟩:=qP t0;obtain⟨q,rfl⟩:=qP w0;subst hk;unfold zAq isN zAo zCu;dsimp only;simp only[qR];cases gone
 ·constructor
  ·congr 1
   ·congr 1;simp;omega
   ·congr 1;simp;omega
   ·congr 1;simp;omega
   ·simp;omega
  ·simp;omega
 ·constructor
  ·congr 1
   ·congr 1;simp;omega
   ·congr 1;simp;omega
   ·congr 1;simp;omega
   ·simp;omega
  ·simp;omega
def zEu(e:Ent):Prop:=e.key<8/\e.value<=255
theorem yGp{l:List Ent}(hm:bU l=true)(hg:∀e∈l,zEu e):∀e∈l,zDb e:=λe he=>by obtain⟨_,⟨h1,h2⟩,⟨h3,h4⟩,h5⟩:=zFz ((gX hm).2.2.2 e he);exact⟨⟨h1,(hg e he).2⟩,⟨h3,h4⟩,h5⟩
theorem zIt{R:List (List Ent)}{P:List Ent->Prop}(h:∀l∈R,P l)(h0:P [])(i:Nat):P (R.getD i []):=by
 rw[qG];cases hk:R[i]? with
 |none=>exact h0
 |some x=>exact h x (qB hk)
def zKo(c:Cfg)(a b:Int)(R:List (List Ent)):List (List Ent):=(List.range c.la.zs.length).map λi=>if i∈bM a.toNat b.toNat c.la.zs 0 then R.getD i []else []
theorem zXr{c:Cfg}{a b:Int}{R:List (List Ent)}(hcf:bG c=true)(ha:0<=a/\a<c.br)(hb:0<=b/\b<c.br)(hlen:R.length=c.la.zs.length)(hmay:∀l∈R,bU l=true)(hgood:∀l∈R,∀e∈l,zEu e):bT c a b R=(bytesOf (bH (dS R (bM a.toNat b.toNat c.la.zs 0))) (34*(bM a.toNat b.toNat c.la.zs 0).length),0)/\dI c a b (bT c a b R).1=(zKo c a b R,0):=by
 have hab:cG c a=true/\cG c b=true:=by unfold cG;simp;omega
 unfold zKo;have hnd:=zDf a.toNat b.toNat c.la.zs 0;have hlt:∀i∈bM a.toNat b.toNat c.la.zs 0,i<c.la.zs.length:=λi hi=>by have:=zCp _ _ _ _ i hi;omega
 have hP1:bT c a b R=(bytesOf (bH (dS R (bM a.toNat b.toNat c.la.zs 0))) (34*(bM a.toNat b.toNat c.la.zs 0).length),0):=by
  unfold bT;rw[if_neg (by rw[hcf];simp),if_neg (by rw[hab.1,hab.2];simp),if_neg (by rw[hlen];simp),if_neg,if_neg]
  ·rw[List.any_eq_true];rintro⟨i,_,h⟩;unfold dZ at h;obtain⟨e,he,h2⟩:=List.any_eq_true.1 h;have:=zIt (P:=λl=>∀e∈l,zEu e) hgood (λe he=>by cases he) i e he;unfold zEu at this;simp at h2;omega
  ·rw[List.any_eq_true];rintro⟨l,hl,h⟩;rw[hmay l hl]at h;cases h
 refine⟨hP1,?_⟩;rw[hP1];dsimp only;generalize hbs:bytesOf (bH (dS R (bM a.toNat b.toNat c.la.zs 0))) (34*(bM a.toNat b.toNat c.la.zs 0).length)=bs;have hP:dI c a b bs=if bs.length≠34*(bM a.toNat b.toNat c.la.zs 0).length then([],4)else if zDz bs (bM a.toNat b.toNat c.la.zs 0).length=true then(dL bs (bM a.toNat b.toNat c.la.zs 0) c.la.zs.length (8*(bM a.toNat b.toNat c.la.zs 0).length),0)else([],4):=by unfold dI;rw[if_neg (by rw[hcf];simp),if_neg (by rw[hab.1,hab.2];simp)]
 rw[hP];generalize bM a.toNat b.toNat c.la.zs 0=is at hnd hlt hbs;have hlb:bs.length=34*is.length:=by rw[<-hbs];simp[bytesOf]
 rw[if_neg (by rw[hlb];simp)];have hRm:∀i,bU (R.getD i [])=true:=zIt (P:=λl=>bU l=true) hmay rfl;have hRg:∀i,∀e∈R.getD i [],zEu e:=zIt (P:=λl=>∀e∈l,zEu e) hgood (λe he=>by cases he);have hRs:∀i,∀e∈R.getD i [],zDb e:=λi=>yGp (hRm i) (hRg i)
 have hsl:∀p i x:Nat,is[p]? =some i->x<8->slN bs (8*p+x)=gH (R.getD i []) x:=λp i x hp hx=>by
  have hpl:=(qK.1 hp).1;have h34:∀f∈dS R is,f.1=((34:Nat):Int):=λf hf=>zZa R is f hf
  have:=yGs 34 (dS R is) h34 (34*is.length) (8*p+x) _ (zJs R is p i x hp hx) (by dsimp only;rw[qR];exact zXu (hRs i) x) (by rw[zOf];omega);rw[hbs,qR]at this;exact this
 have hdec:∀p i x:Nat,is[p]? =some i->x<8->(isN (slN bs (8*p+x))=false/\slN bs (8*p+x)=0/\zBs (R.getD i []) x=none)\/(isN (slN bs (8*p+x))=true/\∃e,zBs (R.getD i []) x=some e/\zAq x (slN bs (8*p+x))=e):=λp i x hp hx=>by
  rw[hsl p i x hp hx];unfold gH;cases hk:zBs (R.getD i []) x with
  |none=>exact .inl ⟨by decide,rfl,rfl⟩
  |some e=>
   have hm:=List.mem_of_find?_eq_some hk;have hkk:e.key=x:=by have:=List.find?_some hk;simpa using this
   obtain⟨h1,h2⟩:=yGn (hRs i e hm) hkk;exact .inr ⟨h2,e,rfl,h1⟩
 have hgoodA:zDz bs is.length=true:=by
  unfold zDz;rw[uE];intro k hk;have hk8:k<8*is.length:=jZ.1 hk;obtain⟨i,hi⟩:∃i,is[k/8]? =some i:=⟨_,qI (by omega)⟩;have e8:8*(k/8)+k%8=k:=by omega
  have:=hdec (k/8) i (k%8) hi (Nat.mod_lt _ (by omega));rw[e8]at this;unfold zCf;rw[Bool.or_eq_true];rcases this with⟨_,h2,_⟩|⟨h1,e,h2,h3⟩
  ·left;rw[h2];rfl
  ·right
   rw[h1,h3,Bool.true_and];exact(gX (hRm i)).2.2.2 e (List.mem_of_find?_eq_some h2)
 rw[if_pos hgoodA];obtain⟨hg1,hg2⟩:=zFt bs is c.la.zs.length is.length rfl hnd hlt (8*is.length) (qA _)
 congr 1
 refine List.ext_getElem (by rw[zBx];simp) λi h1 h2=> ?_
 have e1:(dL bs is c.la.zs.length (8*is.length))[i]=(dL bs is c.la.zs.length (8*is.length)).getD i []:=by rw[qG,qI h1];rfl
 rw[e1,List.getElem_map,List.getElem_range];by_cases hi:i∈is
 ·rw[if_pos hi];obtain⟨p,hp⟩:=jY.1 hi;have hpl:=(qK.1 hp).1;rw[hg1 p i hp,show min 8 (8*is.length-8*p)=8 by omega];obtain⟨hs,hko,_,_⟩:=gX (hRm i);refine zRt _ _ (zKi bs p 8) hs λe=>⟨λhe=> ?_,λhe=> ?_⟩
  ·obtain⟨x,hx,h3,h4⟩:=zEb bs p 8 e he;rcases hdec p i x hp hx with⟨h5,_⟩|⟨_,e2,h6,h7⟩
   ·rw[h5]at h4;cases h4
   ·rw[h3,h7];exact List.mem_of_find?_eq_some h6
  ·have hk1:=(hRg i e he).1;have hk0:=(hko e he).1;have hkm:=zZc hs he;have hx:e.key.toNat<8:=by omega
   rw[show e.key=((e.key.toNat:Nat):Int)by omega]at hkm;rcases hdec p i e.key.toNat hp hx with⟨_,_,h6⟩|⟨h5,e2,h6,h7⟩
   ·rw[hkm]at h6;cases h6
   ·rw[hkm]at h6;cases h6;have:=zGg bs p 8 e.key.toNat;rw[if_pos ⟨hx,h5⟩,h7]at this;exact List.mem_of_find?_eq_some this
 ·rw[if_neg hi,hg2 i hi]
section
inductive zGj{α β:Type}(P:α->β->Prop):List α->List β->Prop where
 |nil:zGj P [] []
 |cons {a:α} {b:β} {l:List α} {m:List β}:P a b->zGj P l m->zGj P (a::l) (b::m)
namespace zGj
variable {α β γ:Type}{P:α->β->Prop}
theorem len:∀{l:List α} {m:List β},zGj P l m->l.length=m.length
 |_,_,.nil=>rfl
 |_,_,.cons _ h=>by rw[jG,jG,h.len]
theorem append:∀{l:List α} {m:List β} {l2:List α} {m2:List β},zGj P l m->zGj P l2 m2->zGj P (l++l2) (m++m2)
 |_,_,_,_,.nil,h=>h
 |_,_,_,_,.cons a h,k=> .cons a (h.append k)
theorem map:∀(l:List γ) (f:γ->α) (g:γ->β),(∀x∈l,P (f x) (g x))->zGj P (l.map f) (l.map g)
 |[],_,_,_=> .nil
 |x::l,f,g,h=> .cons (h x (by simp)) (map l f g λy hy=>h y (by simp[hy]))
theorem flatMap:∀(l:List γ) (f:γ->List α) (g:γ->List β),(∀x∈l,zGj P (f x) (g x))->zGj P (l.flatMap f) (l.flatMap g)
 |[],_,_,_=> .nil
 |x::l,f,g,h=>by rw[jU,jU];exact(h x (by simp)).append (flatMap l f g λy hy=>h y (by simp[hy]))
theorem mono{Q:α->β->Prop}(hq:∀a b,P a b->Q a b):∀{l:List α} {m:List β},zGj P l m->zGj Q l m
 |_,_,.nil=> .nil
 |_,_,.cons a h=> .cons (hq _ _ a) (h.mono hq)
end zGj
def GoodR(c:Cfg)(R:List (List Ent)):Prop:=R.length=c.ln/\(∀l∈R,bU l=true)/\∀l∈R,∀e∈l,zEu e
theorem zKn(R:List (List Ent)):∀(k:Nat) (q:List (List Ent)) (l:Nat),(zBd R k q).length=q.length/\(zBd R k q).getD l []=if l<k/\l<q.length then(dY (q.getD l []) (R.getD l [])).1 else q.getD l []
 |0,q,l=>⟨rfl,by rw[if_neg (by omega)];rfl⟩
 |k+1,q,l=>by
  obtain⟨h1,h2⟩:=zKn R k q l;obtain⟨_,h3⟩:=zKn R k q k;rw[if_neg (by omega)]at h3;rw[zBd];refine⟨by rw[List.length_set,h1],?_⟩;rw[h3,qG,List.getElem?_set,h1];by_cases hkl:k=l
  ·subst hkl;rw[if_pos rfl];by_cases hq:k<q.length
   ·rw[if_pos hq,if_pos ⟨by omega,hq⟩];rfl
   ·rw[if_neg hq,if_neg (by omega),qG,qU (by omega)]
  ·rw[if_neg hkl,<-qG,h2];by_cases h:l<k/\l<q.length
   ·rw[if_pos h,if_pos (by omega)]
   ·rw[if_neg h,if_neg (by omega)]
theorem zOa(i:Nat)(l:List Int)(S:WS):∀k,(∀j,j≠i->(dH i l k S).sh j=S.sh j/\(dH i l k S).gn j=S.gn j)/\((dH i l k S).ask=S.ask/\(dH i l k S).st=S.st/\(dH i l k S).bk=S.bk/\(dH i l k S).lts=S.lts/\(dH i l k S).top=S.top/\(dH i l k S).lost=S.lost)
 |0=>⟨λj _=>⟨rfl,rfl⟩,rfl,rfl,rfl,rfl,rfl,rfl⟩
 |k+1=>by
  obtain⟨h1,h2,h3,h4,h5,h6,h7⟩:=zOa i l S k;rw[dH,gnAt]
  split
  ·refine⟨λj hj=> ?_,h2,h3,h4,h5,h6,h7⟩;dsimp only;rw[cQ _ _ hj,cQ _ _ hj];exact h1 j hj
  ·exact⟨h1,h2,h3,h4,h5,h6,h7⟩
end
end Go.Proofs.YtbolcebmbpepdaaGreatDoor
