/- Contracts. Conditions: those each states. -/
import Derived.Test.YtbolcebmbpepdaaGreatDoorM22
namespace Go.Proofs.YtbolcebmbpepdaaGreatDoor
set_option maxRecDepth 100000
set_option maxHeartbeats 8000000
set_option linter.all false
open Go.RowKit Tryz
def timeOk(K:Int)(R:List (List Ent)):Prop:=∀l∈R,∀e∈l,e.time<=K
structure GoodW(c:Cfg)(K:Int)(S:WS):Prop where
 st:∀i,GoodR c (S.st i)/\timeOk K (S.st i)
 lts:∀p∈S.lts,p.fr<c.n->p.to_<c.n->∃R,GoodR c R/\timeOk K R/\p.data=(bT c p.fr p.to_ R).1
 top:∀f t,S.top f t<=S.lts.length
 lost:∀id,S.lost id=true->id<S.lts.length
theorem timeOk.mono{K L:Int}{R:List (List Ent)}(h:timeOk K R)(hL:K<=L):timeOk L R:=λl hl e he=>Int.le_trans (h l hl e he) hL
theorem GoodW.more{c:Cfg}{K L:Int}{S:WS}(h:GoodW c K S)(hL:K<=L):GoodW c L S:=
 ⟨λi=>⟨(h.st i).1,(h.st i).2.mono hL⟩,λp hp h1 h2=>by obtain⟨R,a,b,d⟩:=h.lts p hp h1 h2;exact⟨R,a,b.mono hL,d⟩,h.top,h.lost⟩
theorem zUg{a b:List Ent}{e:Ent}(h:e∈(dY a b).1):e∈a\/e∈b:=by
 unfold dY at h
 split at h
 ·split at h
  ·cases h
  ·exact zQh b a e h
 ·cases h
theorem GoodR.set_{c:Cfg}{R:List (List Ent)}(h:GoodR c R)(k:Nat){l:List Ent}(hm:bU l=true)(hg:∀e∈l,zEu e):GoodR c (R.set k l):=by
 refine⟨by rw[List.length_set];exact h.1,λx hx=> ?_,λx hx=> ?_⟩
 ·rcases jO hx with hx|rfl
  ·exact h.2.1 x hx
  ·exact hm
 ·rcases jO hx with hx|rfl
  ·exact h.2.2 x hx
  ·exact hg
theorem timeOk.set_{K:Int}{R:List (List Ent)}(h:timeOk K R)(k:Nat){l:List Ent}(hg:∀e∈l,e.time<=K):timeOk K (R.set k l):=λx hx=>by
 rcases jO hx with hx|rfl
 ·exact h x hx
 ·exact hg
theorem zGu{c:Cfg}{K:Int}{R:List (List Ent)}(h:GoodR c R/\timeOk K R)(k:Nat):∀e∈R.getD k [],zEu e/\e.time<=K:=
 zIt (P:=λl=>∀e∈l,zEu e/\e.time<=K) (λl hl e he=>⟨h.1.2.2 l hl e he,h.2 l hl e he⟩) (λe he=>by cases he) k
theorem zNe{c:Cfg}{K:Int}{R:List (List Ent)}(hR:GoodR c R/\timeOk K R):∀(k:Nat) (q:List (List Ent)),GoodR c q/\timeOk K q->GoodR c (zBd R k q)/\timeOk K (zBd R k q)
 |0,q,h=>h
 |k+1,q,h=>by
  have ih:=zNe hR k q h;rw[zBd];have hm:∀e∈(dY ((zBd R k q).getD k []) (R.getD k [])).1,zEu e/\e.time<=K:=λe he=>by
   rcases zUg he with he|he
   ·exact zGu ih k e he
   ·exact zGu hR k e he
  exact⟨ih.1.set_ k (zJt _ _) (λe he=>(hm e he).1),ih.2.set_ k λe he=>(hm e he).2⟩
theorem zPs{c:Cfg}{K:Int}{a b:Int}{R:List (List Ent)}(h:GoodR c R/\timeOk K R):GoodR c (zKo c a b R)/\timeOk K (zKo c a b R):=by
 unfold zKo;have hm:∀l∈(List.range c.la.zs.length).map (λi=>if i∈bM a.toNat b.toNat c.la.zs 0 then R.getD i []else []),∃i,l=R.getD i []\/l=[]:=λl hl=>by
  obtain⟨i,_,rfl⟩:=jC.1 hl;refine⟨i,?_⟩
  split
  ·exact .inl rfl
  ·exact .inr rfl
 refine⟨⟨by simp[Cfg.ln],λl hl=> ?_,λl hl e he=> ?_⟩,λl hl e he=> ?_⟩
 ·obtain⟨i,rfl|rfl⟩:=hm l hl
  ·exact zIt (P:=λl=>bU l=true) h.1.2.1 rfl i
  ·rfl
 ·obtain⟨i,rfl|rfl⟩:=hm l hl
  ·exact(zGu h i e he).1
  ·cases he
 ·obtain⟨i,rfl|rfl⟩:=hm l hl
  ·exact(zGu h i e he).2
  ·cases he
theorem GoodW.tells{c:Cfg}{K:Int}{S:WS}(h:GoodW c K S)(hcf:bG c=true){p:PoD}(hp:p∈S.lts)(hf:0<=p.fr/\p.fr<c.n)(ht:0<=p.to_/\p.to_<c.n):∃R,(GoodR c R/\timeOk K R)/\p.data=(bT c p.fr p.to_ R).1/\dI c p.fr p.to_ p.data=(zKo c p.fr p.to_ R,0):=by obtain⟨⟨hn,_⟩,_⟩:=bK hcf;obtain⟨R,h1,h2,h3⟩:=h.lts p hp hf.2 ht.2;refine⟨R,⟨h1,h2⟩,h3,?_⟩;rw[h3];exact(zXr hcf (by omega) (by omega) h1.1 h1.2.1 h1.2.2).2
theorem yHa(i:Nat)(l:List Int)(k:Nat)(S:WS):(dH i l k S).st=S.st/\(dH i l k S).lts=S.lts/\(dH i l k S).top=S.top/\(dH i l k S).lost=S.lost:=by obtain⟨_,_,h2,_,h4,h5,h6⟩:=zOa i l S k;exact⟨h2,h4,h5,h6⟩
theorem yFw{c:Cfg}{K:Int}{S:WS}{N:Nat}(h:GoodW c K S)(hok:S.ok c N)(hcf:bG c=true){p:PoD}(hp:p∈S.lts):GoodW c K (zAt c S p):=by
 obtain⟨⟨hn,_⟩,_⟩:=bK hcf;obtain⟨hf,ht,_,_⟩:=hok.lts p hp;unfold zAt
 split
 ·exact⟨h.st,h.lts,h.top,h.lost⟩
 rename_i h1
 split
 ·obtain⟨e1,e2,e3,e4⟩:=yHa p.to_.toNat (dA c p.data).1 (dA c p.data).1.length S;exact⟨by rw[e1];exact h.st,by rw[e2];exact h.lts,by rw[e2,e3];exact h.top,by rw[e2,e4];exact h.lost⟩
 rename_i h2;obtain⟨R,hR,_,hh⟩:=h.tells hcf hp ⟨hf.1,by omega⟩ ⟨ht.1,by omega⟩;rw[hh];refine⟨λi=> ?_,h.lts,h.top,h.lost⟩;show GoodR c (bN S.st p.to_.toNat _ i)/\timeOk K (bN S.st p.to_.toNat _ i);rw[zBq]
 split
 ·exact zNe (zPs hR) _ _ (h.st _)
 ·exact h.st i
theorem yIa{c:Cfg}{K:Int}{S:WS}(h:GoodW c K S)(hcf:bG c=true):GoodW c K (zGs c S).2:=by
 have hl:(zGs c S).2.lts=S.lts++(cA c S.aged c.n++dW c S c.n):=rfl;refine⟨h.st,λp hp h1 h2=> ?_,λf t=> ?_,λid hid=> ?_⟩
 ·rw[hl]at hp;rcases jI.1 hp with hp|hp
  ·exact h.lts p hp h1 h2
  ·rcases jI.1 hp with hp|hp
   ·unfold cA at hp;obtain⟨i,hi,hp⟩:=List.mem_flatMap.1 hp;rcases jD.1 hp with rfl|hp
    ·exact absurd h2 (by dsimp only;omega)
    ·unfold zAv at hp;obtain⟨j,_,rfl⟩:=jC.1 hp;exact⟨S.st i,(h.st i).1,(h.st i).2,rfl⟩
   ·unfold dW at hp;obtain⟨i,hi,rfl⟩:=jC.1 hp;exact absurd h1 (by dsimp only;omega)
 ·have:=h.top f t;rw[hl,qM];show S.top f t<=_;omega
 ·have:=h.lost id hid;rw[hl,qM];omega
theorem yBp{c:Cfg}{K:Int}{S:WS}(h:GoodW c K S)(p:PoD)(id:Int)(hid:id+1<=S.lts.length):GoodW c K (S.opened p id):=by
 refine⟨h.st,h.lts,λf t=> ?_,h.lost⟩;show(if f=p.fr/\t=p.to_ then id+1 else S.top f t)<=_
 split
 ·exact hid
 ·exact h.top f t
theorem due0{S:WS}{id:Int}(h:gD S id≠6):∃p,S.lts[id.toNat]? =some p/\0<=id/\id<S.lts.length:=by
 unfold gD at h
 split at h
 ·exact absurd rfl h
 rename_i h1;cases hp:S.lts[id.toNat]? with
 |none=>rw[hp]at h;exact absurd rfl h
 |some p=>
  have hlt:=(qK.1 hp).1;have h0:0<=id:=by
   refine Int.not_lt.1 λe=>h1 ?_
   unfold WS.to_ toP;rw[if_pos e]
   decide
  exact⟨p,rfl,h0,by omega⟩
theorem zZd{c:Cfg}{K:Int}{S:WS}{N:Nat}(h:GoodW c K S)(hok:S.ok c N)(hcf:bG c=true)(id:Int):GoodW c K (fZ c S id).2:=by
 unfold fZ
 split
 ·exact h
 rename_i h6;obtain⟨p,hp,h0,hlt⟩:=due0 h6;rw[hp];dsimp only
 split
 ·exact h
 ·exact yFw (yBp h p id (by omega)) (zNj hok p id) hcf (qB hp)
theorem put_good{c:Cfg}{K:Int}{S:WS}(h:GoodW c K S)(hK:0<=K)(i l:Nat)(who key value:Int)(hk:0<=key/\key<8)(hv:0<=value/\value<=255):GoodW c (K+1) {S with st:=bN S.st i ((S.st i).set l (zFm ((S.st i).getD l []) who key value false))}:=by
 refine⟨λa=> ?_,λp hp h1 h2=> ?_,h.top,h.lost⟩
 ·show GoodR c (bN S.st i _ a)/\timeOk (K+1) (bN S.st i _ a);rw[zBq]
  split
  ·have hti:zDp ((S.st i).getD l []) 0<=K:=by
    have key:∀(L:List Ent) (t:Int),t<=K->(∀e∈L,e.time<=K)->zDp L t<=K:=by
     intro L
     induction L with
     |nil=>intro t ht _;exact ht
     |cons x L ih=>intro t ht hL;have hx:=hL x (by simp);unfold zDp;simp only[List.foldl_cons];refine ih _ ?_ (λe he=>hL e (by simp[he]));omega
    exact key _ 0 hK (λe he=>(zGu (h.st i) l e he).2)
   have hm:∀e∈zFm ((S.st i).getD l []) who key value false,zEu e/\e.time<=K+1:=λe he=>by
    rcases zUg he with he|he
    ·have:=zGu (h.st i) l e he;exact⟨this.1,by omega⟩
    ·rw[jJ]at he;subst he;exact⟨⟨hk.2,hv.2⟩,by dsimp only;omega⟩
   exact⟨(h.st i).1.set_ l (zJt _ _) (λe he=>(hm e he).1),((h.st i).2.mono (by omega)).set_ l λe he=>(hm e he).2⟩
  ·exact⟨(h.st a).1,(h.st a).2.mono (by omega)⟩
 ·obtain⟨R,a,b,d⟩:=h.lts p hp h1 h2;exact⟨R,a,b.mono (by omega),d⟩
theorem yGj{c:Cfg}{K:Int}{S:WS}{N:Nat}(h:GoodW c K S)(hK:0<=K)(hok:S.ok c N)(hcf:bG c=true)(s:StpI):GoodW c (K+1) (stepW c S s).2:=by
 have hm:=h.more (L:=K+1) (by omega);have hsame:∀{S':WS},S'.st=S.st->S'.lts=S.lts->S'.top=S.top->S'.lost=S.lost->GoodW c (K+1) S':=λe1 e2 e3 e4=>⟨by rw[e1];exact hm.st,by rw[e2];exact hm.lts,by rw[e2,e3];exact hm.top,by rw[e2,e4];exact hm.lost⟩
 unfold stepW
 split
 ·exact yIa hm hcf
 split
 ·exact zZd hm hok hcf s.id
 split
 ·split
  ·rename_i hd;obtain⟨p,hp,h0,hlt⟩:=due0 (S:=S) (id:=s.id) (by rw[hd];decide);refine⟨hm.st,hm.lts,hm.top,λid hid=> ?_⟩;have hid':(if id=s.id then true else S.lost id)=true:=hid
   split at hid'
   ·rename_i e;rw[e];exact hlt
   ·exact hm.lost id hid'
  ·exact hm
 split
 ·exact hm
 split
 ·exact hm
 unfold fF
 split
 ·unfold fK
  split
  ·exact hm
  rename_i hb
  split
  ·exact hm
  split
  ·rename_i hk7;exact put_good h hK _ _ _ _ _ (by omega) (by omega)
  split
  ·exact hm
  ·exact hm
 split
 ·exact hm
 split
 ·split
  ·exact hm
  split
  ·exact hm
  ·exact hsame rfl rfl rfl rfl
 ·exact hsame rfl rfl rfl rfl
theorem new_good{c:Cfg}:GoodW c 0 (WS.new c):=by
 have key:∀l∈List.replicate c.ln ([]:List Ent),l=[]:=λl hl=>(uB.1 hl).2
 refine⟨λi=>⟨⟨jB,λl hl=> ?_,λl hl e he=> ?_⟩,λl hl e he=> ?_⟩,λp hp=>(by cases hp),λf t=> ?_,λid h=>by cases h⟩
 ·rw[key l hl];rfl
 ·rw[key l hl]at he;cases he
 ·rw[key l hl]at he;cases he
 ·show(0:Int)<=_;omega
section
variable {w w':World}{c:Cfg}{y:fD}{S:WS}{K base:Nat}{ow:Nat->Tag}
theorem yFg(h:RW w c y S K base ow)(j:Nat)(hj:j<c.m)(L:Int)(hs:(S.bk j).ok c.n L):Calls prog 71 #[.pointer (some ⟨y.bg j,0,none⟩)] w (yFj w c y {S with bk:=bN S.bk j (fR c.cap c.tk (S.bk j)).1} K base ow (fR c.cap c.tk (S.bk j)).2.1 (fR c.cap c.tk (S.bk j)).2.2):=by
 obtain⟨⟨p,r,hg,hb,hsm,ho⟩⟩:=h.pc (.bk j) hj;obtain⟨⟨_,hn1,hn8⟩,_,htk,_,hcap,_,_⟩:=bK h.may;obtain⟨g1,g2⟩:=yHg ⟨S.bk j,hsm,hs⟩ hcap htk;obtain⟨e1,e2⟩:=yDd hsm hs hcap htk.1;rw[<-hg,e2];refine(zQl base c.n p c.cap c.tk r w hb g1 g2 ⟨hn1,hn8⟩ hcap htk h.bw).mono ?_;rintro e w' ⟨p',A,cc,rfl,hrow,hb',hpg,hph,hon,hap⟩;have hD:∀b,b<w.heap.size->p.has b->ow b= .bk j:=λb _ hd=>ho b hd
 obtain⟨k1,k2⟩:=h.turnBk (j:=j) (λk=>decide (k=p'.g\/k=p'.gw\/k=p'.gg\/k=p'.gs\/k=p'.gq)) hon hD λ_=>⟨⟨p',_,hpg.trans hg,hb',e1,λk hk=>by
  rcases hph k hk with h3|h3
  ·rw[cV (hb.lt k h3)];exact ho k h3
  ·exact zCo h3 (hb'.lt k hk) (by simpa[BrL.has]using hk)⟩⟩
 exact⟨A,cc,_,rfl,hrow,k1,k2,λq hq=>zPy (hrow.lt q hq).1 (by have:=hap q hq;simpa[BrL.has]using this)⟩
theorem RW.wants(h:RW w c y S K base ow){j:Nat}(hj:j<c.m):∃gw,w.cell? ⟨y.bg j,6,none⟩=some (.slice (some ⟨gw,0,none⟩) c.n c.n)/\(∀i x,(S.bk j).wants[i]? =some x->w.cell? ⟨gw,i,none⟩=some (.int .i64 x))/\(∀i,w.frozen? ⟨gw,i,none⟩=false)/\ ∀i n,i<(S.bk j).wants.length->(S.bk j).wants.getD i 0<n->TurnR w c y {S with bk:=bN S.bk j (zCs (S.bk j) i n)} K base ow (w.setCell ⟨gw,i,none⟩ (.int .i64 n)):=by
 obtain⟨⟨p,r,hg,hb,hsm,ho⟩⟩:=h.pc (.bk j) hj;refine⟨p.gw,by rw[<-hg];exact hb.blk.cell 6,λi x hx=>IRow.cell hb.rw_ (by rw[hsm.w];exact hx),λi=>Blk.frozen hb.rw_ i,λi n hi hn=> ?_⟩;have hon:Only (λk=>k=p.gw) w (w.setCell ⟨p.gw,i,none⟩ (.int .i64 n)):=bJ (Only.refl _ w) i _;have hD:∀b,b<w.heap.size->b=p.gw->ow b= .bk j:=λb _ e=>ho b (.inr (.inl e))
 obtain⟨n1,n2,n3,n4,n5,n6⟩:=hb.ne;obtain⟨m1,m2,m3,m4⟩:=hb.ng;obtain⟨k1,k2⟩:=h.turnBk (j:=j) (x:=zCs (S.bk j) i n) (λ_=>false) hon hD λ_=>⟨⟨p,{r with wants:=r.wants.set i n},hg,⟨hb.blk.only hon m1,by rw[hsm.w];exact IRow.set_ (by rw[<-hsm.w];exact hb.rw_) hi n,hb.rg.only hon (Ne.symm n1),hb.rs.only hon (Ne.symm n2),hb.rq.only hon (Ne.symm n3),hb.cap,hb.low,hb.ne⟩,
  ⟨hsm.rd,hsm.res,hsm.all,by show r.wants.set i n=(S.bk j).wants.set i (max _ n);rw[hsm.w,show max ((S.bk j).wants.getD i 0) n=n by omega],hsm.g,hsm.ls,hsm.lq,hsm.q,hsm.bd⟩,λk hk=>by rw[cV (hb.lt k hk)];exact ho k hk⟩⟩
 exact⟨_,k1,k2⟩
theorem RW.turnSt(h:RW w c y S K base ow){K':Nat}(hK:K<=K'){st':Nat->List (List Ent)}{Q Q':List (List Slot)}(h1:ShvAt w base y.sb y.xb y.ib c.ln c.la.c c.n y.xc y.ic c.la.A y.X y.Y Q)(h2:ShvAt w' base y.sb y.xb y.ib c.ln c.la.c c.n y.xc y.ic c.la.A y.X y.Y Q')(hG:Goods K' c.n c.ln Q')(hP:plQ c.ln Q'=(List.range c.n).map st')(ho:Only (XY y.X y.Y) w w'):TurnR w c y {S with st:=st'} K' base ow w':=by
 have h':=h.more hK;obtain⟨_,o1,o2,o3,o4⟩:=h'.pc (.str 0) rfl;have hD:∀b,b<w.heap.size->XY y.X y.Y b->ow b= .str 0:=λb _ hb=>o4 b hb
 refine⟨_,h'.turn (.str 0) (λ_=>false) (by simp) ho hD (λu hu W own hp=> ?_) (λ_=>⟨⟨Q',h2,hG,hP⟩,?_,?_,?_,λk hk=> ?_⟩),Kept.turn _ _ (by simp) ho hD⟩
 ·cases u with
  |str j=>exact λhj=>absurd (by rw[hj]) hu
  |_=>exact hp
 ·rw[cV h1.shelves.lt];exact o1
 ·obtain⟨cs,hb,_⟩:=h1.rowx;rw[cV hb.lt];exact o2
 ·obtain⟨cs,hb,_⟩:=h1.rowy;rw[cV hb.lt];exact o3
 ·rw[cV (XY.ge h1 hk).2.1];exact o4 k hk
theorem RW.shv(h:RW w c y S K base ow){i:Nat}(hi:i<c.n):∃Q x z q,ShvAt w base y.sb y.xb y.ib c.ln c.la.c c.n y.xc y.ic c.la.A y.X y.Y Q/\Goods K c.n c.ln Q/\plQ c.ln Q=(List.range c.n).map S.st/\y.X[i]? =some x/\y.Y[i]? =some z/\Q[i]? =some q/\q.length=c.ln*8/\GoodS K q:=by obtain⟨⟨Q,h1,h2,h3⟩,_⟩:=h.pc (.str 0) rfl;obtain⟨x,z,q,hx,hz,hq,_⟩:=h1.cs hi;obtain⟨g1,g2⟩:=h2.each q (qB hq);exact⟨Q,x,z,q,h1,h2,h3,hx,hz,hq,g1,g2⟩
theorem yAs(h:RW w c y S K base ow)(i l key:Nat)(hi:i<c.n)(hl:l<c.ln)(hk:key<8)(value:Int)(hv:0<=value/\value<=255)(hK:K<=1000):Calls prog 46 #[.pointer (some ⟨y.sb,0,none⟩),.int .i64 i,.int .i64 l,.int .i64 key,.int .i64 value,.bool false] w λe w'=>e= .returned (.tuple #[])/\TurnR w c y {S with st:=bN S.st i ((S.st i).set l (zFm ((S.st i).getD l []) i key value false))} (K+1) base ow w':=by
 obtain⟨Q,x,z,q,h1,h2,h3,hx,hz,hq,hql,hqg⟩:=h.shv hi;obtain⟨⟨_,_,hn8⟩,_⟩:=bK h.may;refine(yDn base y.sb y.xb y.ib c.ln c.la.c c.n y.xc y.ic c.la.A y.X y.Y Q w i l key x z value false q h1 hi hl hk hx hz hq λs hs hs2=> ?_).mono ?_
 ·obtain⟨p,hp⟩:=List.getElem?_of_mem hs;have:=((hqg.row l) p s hp hs2).2.time;omega
 ·rintro e w' ⟨rfl,hs,ho⟩;obtain⟨g1,g2⟩:=put_row h2 (by omega) (by omega) hq hn8 hl hk hv (gone:=false) (λe=>by cases e);refine⟨rfl,h.turnSt (jF K) h1 hs (by exact_mod_cast g1) ?_ (ho.mono λk _ hk=> ?_)⟩
  ·rw[g2,h3,zOc hi,zVm hi]
  ·rcases hk with rfl|rfl
   ·exact .inl (qB hx)
   ·exact .inr (qB hz)
theorem zWv(h:RW w c y S K base ow)(i l:Nat)(e:Ent)(hi:i<c.n)(hl:l<c.ln)(hm:bU [e]=true)(he:e.key<8/\EntOk K e)(hk0:0<=e.key)(hK:K<=1000):Calls prog 74 #[.pointer (some ⟨y.sb,0,none⟩),.int .i64 i,.int .i64 l,zCe e] w λx w'=>x= .returned (.tuple #[])/\TurnR w c y {S with st:=bN S.st i ((S.st i).set l (dY ((S.st i).getD l []) [e]).1)} K base ow w':=by
 obtain⟨Q,x,z,q,h1,h2,h3,hx,hz,hq,hql,hqg⟩:=h.shv hi;refine(zXq base y.sb y.xb y.ib c.ln c.la.c c.n y.xc y.ic c.la.A y.X y.Y Q w i l x z e q h1 hi hl ⟨hk0,he.1⟩ hx hz hq).mono ?_;rintro _ w' ⟨rfl,hs,ho⟩;obtain⟨g1,g2⟩:=zVk (es:=[e]) h2 (by omega) hq hl hm (λa ha=>by rw[jJ]at ha;subst ha;exact he);refine⟨rfl,h.turnSt (qA K) h1 hs g1 ?_ (ho.mono λk _ hk=> ?_)⟩
 ·show plQ c.ln (Q.set i (zGn q l [e]))=_;rw[g2,h3,zOc hi,zVm hi]
 ·rcases hk with rfl|rfl
  ·exact .inl (qB hx)
  ·exact .inr (qB hz)
theorem zZl(h:RW w c y S K base ow)(i l:Nat)(hi:i<c.n)(hl:l<c.ln):Calls prog 50 #[.pointer (some ⟨y.sb,0,none⟩),.int .i64 i,.int .i64 l] w λe w'=>∃v,e= .returned v/\w'.ownsRow w.heap.size 125 5 v ((S.st i).getD l []).length (((S.st i).getD l []).flatMap bD)/\uR w w':=by obtain⟨Q,x,z,q,h1,h2,h3,hx,hz,hq,hql,hqg⟩:=h.shv hi;have:=yAd base y.sb y.xb y.ib c.ln c.la.c c.n y.xc y.ic c.la.A y.X y.Y Q w i l q h1 hi hl hq;rw[row_of h3 hq hi hl]at this;exact this
theorem RW.slot(h:RW w c y S K base ow){i l key:Nat}(hi:i<c.n)(hl:l<c.ln)(hk:key<8):∃x z s,w.cell? ⟨y.xb,i,none⟩=some (.slice (some ⟨x,0,none⟩) c.ln c.ln)/\w.cell? ⟨y.ib,i,none⟩=some (.slice (some ⟨z,0,none⟩) c.ln c.ln)/\w.cell? ⟨z,l*8+key,none⟩=some (.bool s.2)/\w.cell? ⟨x,l*40+key*5+1,none⟩=some (.int .i64 s.1.value)/\w.cell? ⟨x,l*40+key*5+4,none⟩=some (.bool s.1.gone)/\ w.cell? ⟨y.sb,1,none⟩=some (.slice (some ⟨y.xb,0,none⟩) c.n y.xc)/\w.cell? ⟨y.sb,2,none⟩=some (.slice (some ⟨y.ib,0,none⟩) c.n y.ic)/\zAn ((S.st i).getD l []) key=slotF (some s):=by
 obtain⟨Q,x,z,q,h1,h2,h3,hx,hz,hq,hql,hqg⟩:=h.shv hi;obtain⟨x',z',q',hx',hz',hq',c1,c2,hone⟩:=h1.cs hi;obtain rfl:x=x':=by rw[hx]at hx';injection hx'
 obtain rfl:z=z':=by rw[hz]at hz';injection hz'
 obtain rfl:q=q':=by rw[hq]at hq';injection hq'
 have hlt:l*8+key<q.length:=by rw[hql];omega
 obtain⟨s,hs⟩:∃s,q[l*8+key]? =some s:=⟨_,qI hlt⟩;refine⟨x,z,s,c1,c2,hone.cellB hs,hone.cellE hs 1 _ rfl,hone.cellE hs 4 _ rfl,h1.c1,h1.c2,?_⟩;have hr:=zDo q l key hk;have:=yCd (fS q l) 0 key (hqg.row l) (by rw[zGx q l c.ln hql hl];exact hk);rw[Nat.zero_add,hr,hs]at this;rw[<-row_of h3 hq hi hl];exact this
end
section
variable {P:Program}{Q:Exit->Act->World->Prop}{C:World->Prop}
theorem zJz{id:Nat}{a:Act}{w:World}{l:List Oper}(hb al:List Nat)(u:Nat)(tl:List Nat)(hm:P.follows .mixedOrders=true)(hB:zOj .any l.toArray [] hb [] al u tl=true)(hQ:∀c a d v w,Q (.panic c) (a.put d v) w->Q (.panic c) a w)(hC:C w.drew)(h:wpQuiet P l.toArray C (λa'=>fJ P l.toArray Q C (λa2 w2=>wpList P l.toArray Q (bB l (u::tl)) a2 w2) (bB l al) a' w.drew) (bB l hb) a):(Code.region id l.toArray true).wp P Q a w:=by
 simp only[zOj,qT,decide_eq_true_eq,uE,jR]at hB;obtain⟨⟨⟨⟨⟨⟨⟨⟨⟨⟨⟨⟨⟨hsel,hs1⟩,hc1⟩,hs2⟩,hc2⟩,hd1⟩,hd2⟩,hlt⟩,hzlt⟩,hlen⟩,hcov⟩,hz⟩,hhb⟩,hlex⟩:=hB;have hdis:∀k∈u::tl,k∉hb++al:=λk hk hc=>by have:=hd1 k hc;simp only[Bool.not_eq_true',List.contains_eq_mem,decide_eq_false_iff_not]at this;exact this hk
 have inv0:HeadBy .any l.toArray (u::tl) (Array.replicate l.toArray.size false):=
  ⟨by simp,λj oj _ hl=>(by rw[getD_replicate_false]at hl;cases hl),λx hx=>getD_in (by have:=hlt x (jI.2 (.inr hx));simpa using this) (getD_replicate_false _ _)⟩
 have hI1:∀listed j,HeadBy .any l.toArray (u::tl) listed->j∈Region.ready .any l.toArray listed->j∈hb++al->HeadBy .any l.toArray (u::tl) (listed.setIfInBounds j true):=
  λlisted j h hj hc=>h.set hj (λhx=>hdis j hx hc)
 have hw1:∀i,i∈hb++al->∀listed j,HeadBy .any l.toArray (u::tl) listed->listed.getD i true=false->j∈Region.ready .any l.toArray listed->j∈hb++al:=by
  intro i hi listed j hI hun hj;obtain⟨hjun,oj,hoj,_⟩:=mem_ready.1 hj;have hjs:j<l.toArray.size:=(Array.getElem?_eq_some_iff.1 hoj).1;have hcj:=hcov j (jZ.2 hjs);simp only[Bool.or_eq_true,List.contains_eq_mem,decide_eq_true_eq]at hcj;rcases hcj with(h1|h1)|h1
  ·cases h1
  ·exact h1
  ·exfalso
   rcases jD.1 h1 with rfl|h2
   ·exact zDv hI _ hs1 i hi hun hj
   ·exact zFe tl u hc1 hI.tail j h2 hj
 refine wp_region_any hm ?_
 suffices H2:wpAny P .any l.toArray Q (hb.length+(al++u::tl).length) (Array.replicate l.toArray.size false) a {w with drawn:=w.drawn+1}by rw[List.length_nil,Nat.zero_add,Nat.zero_add]at hlen;rw[hlen]at H2;exact H2
 refine zCc (C:=C) (cal:=hb++al) _ _ _ _ ?_;refine zDk hsel hQ (λlisted=>HeadBy .any l.toArray (u::tl) listed) hI1 hw1 hC hb _ a inv0 (λi hi=>by simp[hi]) hhb h ?_;intro a2 hI2 h2;exact zMx al _ a2 _ hdis hlex h2
end
structure RLike(R:WS->World->(Nat->Tag)->Prop)(base:Nat):Prop where
 far:∀{S:WS} {W W':World} {ow:Nat->Tag} {D:Nat->Prop},R S W ow->Only D W W'->(∀k,k<W.heap.size->D k->ow k= .no)->(∀k,k<base->¬ D k)->R S W' ow
 fresh:∀{S:WS} {W:World} {ow:Nat->Tag},R S W ow->∀k,W.heap.size<=k->ow k= .no
 bw:∀{S:WS} {W:World} {ow:Nat->Tag},R S W ow->base<=W.heap.size
theorem RLike.calm{R:WS->World->(Nat->Tag)->Prop}{base:Nat}{S:WS}{W W':World}{ow:Nat->Tag}(h:RLike R base)(hr:R S W ow)(hb:uR W W'):R S W' ow:=
 h.far (D:=λk=>W.heap.size<=k) hr (Only.of_below hb λ_ _ h=>h) (λk hk hk2=>by omega) (λk hk hk2=>by have:=h.bw hr;omega)
def wt0(wt:TypeId):Prop:=wt≠57/\111≠wt/\3≠wt/\wt≠22
structure TkG(R:WS->World->(Nat->Tag)->Prop)(base:Nat)(w:World)(S:WS)(ow:Nat->Tag)(tb wb:Nat)(wt:TypeId)(hq:Nat)(t:Tol)(W:World)(ow1:Nat->Tag):Prop where
 like:RLike R base
 wt1:wt0 wt
 pw:R S W ow1
 kept:Kept w W ow ow1
 tn:ow1 tb= .no
 wn:ow1 wb= .no
 bw:base<=w.heap.size
 tl:w.heap.size<=tb
 tk:Blk W tb 57 t.cells.toArray
 wk:Blk W wb wt #[.pointer (some ⟨hq,0,none⟩)]
 own:TolOwn t W w.heap.size
 no:TolNo t ow1
section
variable {w W W':World}{base:Nat}{ow ow1 ow2:Nat->Tag}{t:Tol}
theorem TolNo.turn(h:TolNo t ow1)(ho:TolOwn t W base)(hk:Kept W W' ow1 ow2):TolNo t ow2:=λv hv k hk'=>by
 rw[hk.old k ?_]
 ·exact h v hv k hk'
 ·rcases hv with rfl|rfl|rfl
  ·exact(ho.so.lt k hk').2
  ·exact(ho.fo.lt k hk').2
  ·exact(ho.ro.lt k hk').2
theorem TolOwn.kept(h:TolOwn t W base)(hn:TolNo t ow1)(hk:Kept W W' ow1 ow2):TolOwn t W' base:=
 ⟨hk.own h.so (hn _ (Or.inl rfl)),hk.own h.fo (hn _ (Or.inr (Or.inl rfl))),hk.own h.ro (hn _ (Or.inr (Or.inr rfl)))⟩
end
section
variable {w W W':World}{R:WS->World->(Nat->Tag)->Prop}{wt:TypeId}{hq:Nat}{S S':WS}{base tb wb:Nat}{ow ow1 ow2:Nat->Tag}{t:Tol}
theorem TkG.turn(h:TkG R base w S ow tb wb wt hq t W ow1)(hp:R S' W' ow2)(hk:Kept W W' ow1 ow2):TkG R base w S' ow tb wb wt hq t W' ow2:=
 ⟨h.like,h.wt1,hp,h.kept.trans hk,(hk.old tb h.tk.lt).trans h.tn,(hk.old wb h.wk.lt).trans h.wn,h.bw,h.tl,hk.blk h.tk h.tn,hk.blk h.wk h.wn,h.own.kept h.no hk,h.no.turn h.own hk⟩
theorem TkG.calm(h:TkG R base w S ow tb wb wt hq t W ow1)(hb:uR W W'):TkG R base w S ow tb wb wt hq t W' ow1:=h.turn (h.like.calm h.pw hb) (Kept.calm hb)
end
section
variable {w W W':World}{R:WS->World->(Nat->Tag)->Prop}{wt:TypeId}{hq:Nat}{S S':WS}{base tb wb:Nat}{ow ow1 ow2:Nat->Tag}{t:Tol}{D:Nat->Prop}
theorem TkG.touch(h:TkG R base w S ow tb wb wt hq t W ow1)(ho:Only D W W')(hD:∀k,k<W.heap.size->D k->w.heap.size<=k/\ow1 k= .no):R S W' ow1/\Kept w W' ow ow1:=
 ⟨h.like.far (D:=λk=>k<W.heap.size/\D k) h.pw (ho.mono λx hx hd=>⟨hx,hd⟩) (λk hk hd=>(hD k hk hd.2).2) (λk hk hd=>by have:=(hD k hd.1 hd.2).1;have:=h.bw;omega),
  ⟨h.kept.only.trans ho (λx hx hd=>by have:=(hD x (jQ hx h.kept.only.size) hd).1;omega),h.kept.old⟩⟩
theorem TkG.rowD(h:TkG R base w S ow tb wb wt hq t W ow1){v:Value}(hv:v=Value.slice t.sA t.sn t.sc\/v=Value.slice t.fA t.fn t.fc\/v=Value.slice t.rA t.rn t.rc){k:Nat}(hk:v.ownBlock=some k):(w.heap.size<=k/\k<W.heap.size)/\ow1 k= .no:=by
 refine⟨?_,h.no v hv k hk⟩;rcases hv with rfl|rfl|rfl
 ·exact h.own.so.lt k hk
 ·exact h.own.fo.lt k hk
 ·exact h.own.ro.lt k hk
end
abbrev PWr(c:Cfg)(y:Lay)(K base:Nat):WS->World->(Nat->Tag)->Prop:=λS W ow=>PW W c y S K base ow
theorem pw_like(c:Cfg)(y:Lay)(K base:Nat):RLike (PWr c y K base) base:=⟨λh=>PW.far h,λh=>PW.fresh h,λh=>PW.bw h⟩
abbrev TkA(w:World)(c:Cfg)(y:Lay)(S:WS)(K base:Nat)(ow:Nat->Tag)(tb wb:Nat)(t:Tol)(W:World)(ow1:Nat->Tag):Prop:=TkG (PWr c y K base) base w S ow tb wb 60 y.hb t W ow1
def zLe(d:zCl)(l:List Envl):zCl:={d with sent:=d.sent++l}
def zQy(R:WS->World->(Nat->Tag)->Prop)(base:Nat)(w:World)(S:WS)(ow:Nat->Tag)(tb wb:Nat)(wt:TypeId)(hq:Nat)(t:Tol)(p:PoD)(W:World)(ow1:Nat->Tag)(e:Ending)(W':World):Prop:=
 e= .returned (.tuple #[])/\∃(t2:Tol) (ow2:Nat->Tag),TkG R base w (S.posts [p]) ow tb wb wt hq t2 W' ow2/\t2.d=zLe t.d [⟨S.lts.length,p.fr,p.to_,p.data.length⟩]/\(t2.fA=t.fA/\t2.fn=t.fn/\t2.fc=t.fc)/\(t2.rA=t.rA/\t2.rn=t.rn/\t2.rc=t.rc)/\
  Only (λk=>ow1 k≠ .no\/k=tb\/(Value.slice t.sA t.sn t.sc).ownBlock=some k) W W'/\∀k,k<W.heap.size->ow2 k=ow1 k
abbrev SendPost(w:World)(c:Cfg)(y:Lay)(S:WS)(K base:Nat)(ow:Nat->Tag)(tb wb:Nat)(t:Tol)(p:PoD)(W:World)(ow1:Nat->Tag):Ending->World->Prop:=zQy (PWr c y K base) base w S ow tb wb 60 y.hb t p W ow1
structure SndL(tb wb hb og:Nat)(cs:Array Value) where
 W:World
 t:Blk W tb 57 cs
 b:Blk W wb 60 #[.pointer (some ⟨hb,0,none⟩)]
 o:W.cell? ⟨hb,7,none⟩=some (.pointer (some ⟨og,0,none⟩))
theorem zVd:∃i,prog.info? 111=some i/\i.zero=some (.agg #[.int .i64 0,.int .i64 0,.int .i64 0,.int .i64 0])/\i.size=4/\i.bytes=32:=gB (by kernel_rfl)
section
variable {w W:World}{c:Cfg}{y:Lay}{S:WS}{K base tb wb:Nat}{ow ow1:Nat->Tag}{t:Tol}
theorem tol_set8(t:Tol)(A:Option Addr)(n cc:Nat)(l:List Envl):t.cells.toArray.setIfInBounds 8 (.slice A n cc)=(Tol.cells {t with d:=zLe t.d l,sA:=A,sn:=n,sc:=cc}).toArray:=by simp[Tol.cells,zLe]
end
section
variable {w W:World}{R:WS->World->(Nat->Tag)->Prop}{wt:TypeId}{hq:Nat}{S:WS}{base tb wb:Nat}{ow ow1:Nat->Tag}{t:Tol}
theorem TkG.grownS{W2 w4:World}{ow2:Nat->Tag}(h:TkG R base w S ow tb wb wt hq t W2 ow2)(hg:W2.grownBy w4 (Value.slice t.sA t.sn t.sc).ownBlock):R S w4 ow2/\Blk w4 tb 57 t.cells.toArray/\Blk w4 wb wt #[.pointer (some ⟨hq,0,none⟩)]:=by have o1:Only (λk=>(Value.slice t.sA t.sn t.sc).ownBlock=some k) W2 w4:=(Only.refl _ W2).grown hg (λg hg _=>hg);exact⟨(h.touch o1 λk _ hd=>⟨(h.rowD (Or.inl rfl) hd).1.1,(h.rowD (Or.inl rfl) hd).2⟩).1,h.tk.only o1 (bC h.own.so h.tk (by decide)),h.wk.only o1 (bC h.own.so h.wk h.wt1.2.1)⟩
theorem TkG.send{W2 w4:World}{ow2:Nat->Tag}{l:List Envl}{g4 cap4:Nat}(h:TkG R base w S ow tb wb wt hq t W2 ow2)(hg:W2.grownBy w4 (Value.slice t.sA t.sn t.sc).ownBlock)(hown:w4.ownsRow w.heap.size 111 4 (.slice (some ⟨g4,0,none⟩) (t.sn+1) cap4) (t.sn+1) (t.d.sent.flatMap Envl.cells++l.flatMap Envl.cells))(hat:some g4=(Value.slice t.sA t.sn t.sc).ownBlock\/g4=W2.heap.size+1):TkG R base w S ow tb wb wt hq {t with d:=zLe t.d l,sA:=some ⟨g4,0,none⟩,sn:=t.sn+1,sc:=cap4} (w4.setCell ⟨tb,8,none⟩ (.slice (some ⟨g4,0,none⟩) (t.sn+1) cap4)) ow2/\Only (λk=>k=tb\/(Value.slice t.sA t.sn t.sc).ownBlock=some k) W2 (w4.setCell ⟨tb,8,none⟩ (.slice (some ⟨g4,0,none⟩) (t.sn+1) cap4)):=by
 have o1:Only (λk=>(Value.slice t.sA t.sn t.sc).ownBlock=some k) W2 w4:=(Only.refl _ W2).grown hg (λg hg _=>hg);have o2:Only (λk=>k=tb) w4 (w4.setCell ⟨tb,8,none⟩ (.slice (some ⟨g4,0,none⟩) (t.sn+1) cap4)):=bJ (Only.refl _ _) _ _;have o3:Only (λk=>k=tb\/(Value.slice t.sA t.sn t.sc).ownBlock=some k) W2 (w4.setCell ⟨tb,8,none⟩ (.slice (some ⟨g4,0,none⟩) (t.sn+1) cap4)):=(o1.mono λx _ h=>Or.inr h).trans o2 λx _ h=>Or.inl h
 have k4:Blk w4 tb 57 t.cells.toArray:=h.tk.only o1 (bC h.own.so h.tk (by decide));have hD:∀k,k<W2.heap.size->(k=tb\/(Value.slice t.sA t.sn t.sc).ownBlock=some k)->w.heap.size<=k/\ow2 k= .no:=λk _ hd=>by
  rcases hd with rfl|hd
  ·exact⟨h.tl,h.tn⟩
  ·exact⟨(h.rowD (Or.inl rfl) hd).1.1,(h.rowD (Or.inl rfl) hd).2⟩
 have hn:∀{e:TypeId} {size n:Nat} {v:Value} {xs:List Value},W2.ownsRow w.heap.size e size v n xs->e≠111->e≠57->(w4.setCell ⟨tb,8,none⟩ (.slice (some ⟨g4,0,none⟩) (t.sn+1) cap4)).ownsRow w.heap.size e size v n xs:=λhv h1 h2=>
  bL hv o3 λk hk hd=>by
   rcases hd with rfl|hd
   ·exact bC hv h.tk h2 hk
   ·rcases dV hv h.own.so h1 with e1|e1
    ·rw[e1]at hk;cases hk
    ·exact e1 (by rw[hk,hd])
 have hown':w4.ownsRow w.heap.size 111 4 (.slice (some ⟨g4,0,none⟩) (t.sn+1) cap4) (t.sn+1) ((zLe t.d l).sent.flatMap Envl.cells):=by show w4.ownsRow _ _ _ _ _ ((t.d.sent++l).flatMap Envl.cells);rw[jN];exact hown
 obtain⟨hp,hk⟩:=h.touch o3 hD;refine⟨⟨h.like,h.wt1,hp,hk,h.tn,h.wn,h.bw,h.tl,?_,h.wk.only o3 (λhd=> ?_),⟨bL hown' o2 (λk hk e=>bC hown k4 (by decide) (by rw[hk,e])),hn h.own.fo (by decide) (by decide),hn h.own.ro (by decide) (by decide)⟩,λv hv k hk=> ?_⟩,o3⟩
 ·rw[<-tol_set8];exact k4.set_ 8 _
 ·rcases hd with e|e
  ·exact Blk.ne_ h.wk h.tk h.wt1.1 e
  ·exact bC h.own.so h.wk h.wt1.2.1 e
 ·rcases hv with rfl|hv
  ·have:k=g4:=by simpa[Value.ownBlock]using hk.symm
   subst this;rcases hat with e|e
   ·exact(h.rowD (Or.inl rfl) e.symm).2
   ·exact h.like.fresh h.pw _ (by omega)
  ·exact h.no v (Or.inr hv) k hk
end
section
variable {w W:World}{c:Cfg}{y:Lay}{S:WS}{K base tb wb:Nat}{ow ow1:Nat->Tag}{t:Tol}
theorem zJj(h:TkA w c y S K base ow tb wb t W ow1)(hl:S.lts.length<=1000000)(fr to_:Int)(er:Value)(A:Option Addr)(n cc:Nat)(data:List Int)(B:Nat)(hdl:data.length=n)(hn:n<=1000000)(hr:Reads W B 1 A n (data.map (.int .u8)))(hB:B<=W.heap.size)(hf:(Lit.int .i64 fr).wf=true)(ht:(Lit.int .i64 to_).wf=true)(hs:t.sn<=1000000):Calls prog 77 #[.int .i64 fr,.int .i64 to_,.slice A n cc,er,.pointer (some ⟨tb,0,none⟩),.pointer (some ⟨wb,0,none⟩)] W (SendPost w c y S K base ow tb wb t ⟨fr,to_,data⟩ W ow1):=by
 obtain⟨iE,hiE,hzE,hsE,hyE⟩:=zVd;have hd:=h.calm (qC _ W).drew;obtain⟨HPO,HL⟩:=uI (zQs hd.pw hl fr to_ A n cc data B hdl hn hr hB hf ht) hdl;go_enter func77,ntmps77;obtain⟨cs,hcs⟩:=kB t.cells.toArray;have r8:∀n2:SndL tb wb y.hb y.og cs,n2.W.cell? ⟨tb,8,none⟩=some (.slice t.sA t.sn t.sc):=λn2=>by rw[n2.t.cell 8,hcs];rfl
 have rb:∀n2:SndL tb wb y.hb y.og cs,n2.W.cell? ⟨wb,0,none⟩=some (.pointer (some ⟨y.hb,0,none⟩)):=λn2=>n2.b.cell 0
 have ro:∀n2:SndL tb wb y.hb y.og cs,n2.W.cell? ⟨y.hb,7,none⟩=some (.pointer (some ⟨y.og,0,none⟩)):=λn2=>n2.o
 have hM:∀(X:World) (S':WS) (o':Nat->Tag),TkA w c y S' K base ow tb wb t X o'->∃n2:SndL tb wb y.hb y.og cs,X=n2.W:=λX S' o' hx=>⟨⟨_,by rw[hcs];exact hx.tk,hx.wk,(hx.pw.pc .con).blk.cell 7⟩,rfl⟩
 obtain⟨HCS,HM,HD⟩:=uJ hcs hM hd;clear hcs hM;haveI hne:Nonempty (SndL tb wb y.hb y.og cs):=⟨(HM.s _ _ _ hd).choose⟩;clear hd h;go_upto_region 0 with fail;refine zJz (C:=λw'=>∃n2:SndL tb wb y.hb y.og cs,w'=n2.W) [0,1,2,3,4,5,6,7,8,10,11,12,13] [9,14,15,16,17] 18 [] (by kernel_rfl) (by kernel_rfl) (by intro c a d v w h;cases d<;>exact h) (HM.s _ _ _ HD.s) ?_;simp only[bB,qJ,qO,qD,qE]
 repeat(go_big_quiet_step (fail))
 refine qF ?_;simp only[fJ];obtain⟨wd,hwd⟩:=kB W.drew;rw[<-hwd]at HPO HD;rw[<-hwd];have HWD:=uT hwd;clear hwd r8 rb ro;go_wp2_with fail;refine HPO.s.mono ?_;rintro _ w2 ⟨rfl,ow2,hp2,hk2⟩;have h2:=HD.s.turn hp2 hk2;obtain⟨H2,HK2⟩:=uI h2 hk2;clear hp2 hk2;clear h2;go_wp2_with fail;refine⟨HM.s _ _ _ H2.s,?_⟩;go_wp2_with fail;refine⟨HM.s _ _ _ H2.s,?_⟩;have HO2:=uT H2.s.own.so;have HMQ:=uT (show(t.sn+1)*32<=140737488355328 by omega);have hsz:=H2.s.kept.only.size;go_wp2_with fail;refine⟨HM.s _ _ _ (H2.s.calm ((qC _ _).alloc (qA _) _)),?_⟩;go_wp2_with(at_builtin;(refine bF w2 rfl (.tmp 11) (.tmp 25) _ rfl w.heap.size 111 iE _ 4 32 underlying54 hiE hzE hsE hyE rfl (by omega) (by omega) _ t.sn _ HO2.s rfl _ 1 _ rfl rfl rfl (by simp[Value.oneCell']) HMQ.s hsz ?_);intro g4 cap4 w4 hg4 hown4 hbel4 hgr4 hat4);have k8:w4.cell? ⟨tb,8,none⟩=some (.slice t.sA t.sn t.sc):=(H2.s.grownS hgr4).2.1.cell 8;have f8:w4.frozen? ⟨tb,8,none⟩=false:=(H2.s.grownS hgr4).2.1.frozen 8;have hm4:∃n2:SndL tb wb y.hb y.og cs,w4=n2.W:=⟨⟨_,by rw[HCS.s];exact(H2.s.grownS hgr4).2.1,(H2.s.grownS hgr4).2.2,(((H2.s.grownS hgr4).1).pc .con).blk.cell 7⟩,rfl⟩;have HM4:=uT hm4;refine⟨hm4,?_⟩;clear hm4;go_wp2_with fail;refine⟨HM4.s,?_⟩;obtain⟨h5,o5⟩:=H2.s.send (l:=[⟨S.lts.length,fr,to_,n⟩]) hgr4 hown4 hat4;obtain⟨H5,O5⟩:=uI h5 o5;clear hg4 hown4 hbel4 hgr4 hat4 h5 o5;go_wp2_with fail
 go_end0
 refine⟨rfl,_,ow2,H5.s,?_,⟨rfl,rfl,rfl⟩,⟨rfl,rfl,rfl⟩,?_,λk hk=> ?_⟩
 ·dsimp only;rw[HL.s]
 ·have e1:Only (λk=>ow1 k≠ .no) W w2:=by have:=HK2.s.only;rw[HWD.s]at this;exact(Only.refl _ W).drew.trans this λx _ h=>h
  exact(e1.mono λx _ h=>Or.inl h).trans O5.s λx _ h=>Or.inr h
 ·have:=HK2.s.old k (by rw[HWD.s];exact hk);exact this
end
structure RwI where
 v:Value
 zs:List Int
def RwI.nil:RwI:=⟨.slice none 0 0,[]⟩
structure GivA(w:World)(base g:Nat)(S:List RwI):Prop where
 blk:Blk w g 22 (S.map RwI.v).toArray
 rows:∀r∈S,w.ownsRow base 3 1 r.v r.zs.length (r.zs.map (.int .i64))
 apart:∀(i j:Nat) (ri rj:RwI),S[i]? =some ri->S[j]? =some rj->i≠j->ri.v.ownBlock=none\/ri.v.ownBlock≠rj.v.ownBlock
 low:base<=g
section
variable {w w':World}{base g:Nat}{S:List RwI}
theorem GivA.only{D:Nat->Prop}(h:GivA w base g S)(ho:Only D w w')(h1:¬ D g)(h2:∀r∈S,∀k,r.v.ownBlock=some k->¬ D k):GivA w' base g S:=
 ⟨h.blk.only ho h1,λr hr=>bL (h.rows r hr) ho (h2 r hr),h.apart,h.low⟩
theorem GivA.cell(h:GivA w base g S){i:Nat}{r:RwI}(hi:S[i]? =some r):w.cell? ⟨g,i,none⟩=some r.v:=by rw[h.blk.cell i];simp[hi]
theorem GivA.push(h:GivA w base g S){i:Nat}{r r':RwI}(hi:S[i]? =some r)(hg:w.grownBy w' r.v.ownBlock)(ho:w'.ownsRow base 3 1 r'.v r'.zs.length (r'.zs.map (.int .i64)))(hat:r'.v.ownBlock=r.v.ownBlock\/∃k,r'.v.ownBlock=some k/\w.heap.size<=k):GivA (w'.setCell ⟨g,i,none⟩ r'.v) base g (S.set i r'):=by
 have h1:Only (λk=>r.v.ownBlock=some k) w w':=(Only.refl _ _).grown hg (λg hg _=>hg);have h2:Only (λk=>k=g) w' (w'.setCell ⟨g,i,none⟩ r'.v):=bJ (Only.refl _ _) _ _;have hrr:=h.rows r (qB hi);have hb1:=h.blk.only h1 (λe=>bC hrr h.blk (by decide) e);have hother:∀(j:Nat) (rj:RwI),S[j]? =some rj->i≠j->(w'.setCell ⟨g,i,none⟩ r'.v).ownsRow base 3 1 rj.v rj.zs.length (rj.zs.map (.int .i64)):=λj rj hj hij=>by
  have hrj:=h.rows rj (qB hj);refine bL (bL hrj h1 λk hk hd=> ?_) h2 λk hk e=> ?_
  ·rcases h.apart i j r rj hi hj hij with e|e
   ·rw[e]at hd;cases hd
   ·exact e (by rw[hd,hk])
  ·exact bC hrj h.blk (by decide) (by rw[hk,e])
 have hself:(w'.setCell ⟨g,i,none⟩ r'.v).ownsRow base 3 1 r'.v r'.zs.length (r'.zs.map (.int .i64)):=bL ho h2 λk hk e=>bC ho hb1 (by decide) (by rw[hk,e])
 have hil:=(qK.1 hi).1;refine⟨?_,λx hx=> ?_,λa b ra rb ha hb hab=> ?_,h.low⟩
 ·have:=hb1.set_ i r'.v;have e:(S.map RwI.v).toArray.setIfInBounds i r'.v=((S.set i r').map RwI.v).toArray:=by rw[<-uD];simp[List.map_set]
  rwa[e]at this
 ·obtain⟨j,hj⟩:=jY.1 hx;by_cases hij:i=j
  ·subst hij;rw[jM hil]at hj;cases hj;exact hself
  ·rw[jX hij]at hj;exact hother j x hj hij
 ·have fresh:∀(j:Nat) (rj:RwI),S[j]? =some rj->i≠j->(r'.v.ownBlock=none\/r'.v.ownBlock≠rj.v.ownBlock)/\(rj.v.ownBlock=none\/rj.v.ownBlock≠r'.v.ownBlock):=λj rj hj hij=>by
   rcases hat with e|⟨k,hk,hkl⟩
   ·rw[e];exact⟨h.apart i j r rj hi hj hij,h.apart j i rj r hj hi λe=>hij e.symm⟩
   ·have hlt:=(h.rows rj (qB hj)).lt;refine⟨.inr λe=> ?_,?_⟩
    ·rw[hk]at e;have:=(hlt k e.symm).2;omega
    ·right
     intro e;rw[hk]at e;have:=(hlt k e).2;omega
  by_cases hai:i=a
  ·subst hai;rw[jM hil]at ha;cases ha;rw[jX hab]at hb;exact(fresh b rb hb hab).1
  ·rw[jX hai]at ha;by_cases hbi:i=b
   ·subst hbi;rw[jM hil]at hb;cases hb;exact(fresh a ra ha hai).2
   ·rw[jX hbi]at hb;exact h.apart a b ra rb ha hb hab
end
theorem GivA.new{w:World}{base g n:Nat}(h:Blk w g 22 (zAy n))(hb:base<=g):GivA w base g (List.replicate n RwI.nil):=by
 have key:∀(i:Nat) (r:RwI),(List.replicate n RwI.nil)[i]? =some r->r=RwI.nil:=λi r hr=>(uB.1 (qB hr)).2
 refine⟨?_,λr hr=> ?_,λi j ri rj hi hj hij=> .inl ?_,hb⟩
 ·rw[List.map_replicate];exact h
 ·rw[(uB.1 hr).2];exact qH _ _ _ _
 ·rw[key i ri hi];rfl
def Gap(L:List RwI)(v:Value):Prop:=∀r∈L,∀k,r.v.ownBlock=some k->v.ownBlock≠some k
theorem Gap.set_{L:List RwI}{v:Value}(h:Gap L v){i:Nat}{r r':RwI}{B:Nat}(hi:L[i]? =some r)(hat:r'.v.ownBlock=r.v.ownBlock\/∃k,r'.v.ownBlock=some k/\B<=k)(hv:∀k,v.ownBlock=some k->k<B):Gap (L.set i r') v:=λx hx k hk e=>by
 rcases jO hx with hx|rfl
 ·exact h x hx k hk e
 ·rcases hat with e2|⟨k2,e2,hk2⟩
  ·exact h r (qB hi) k (by rw[<-e2];exact hk) e
  ·rw[hk]at e2;cases e2;have:=hv k e;omega
theorem Gap.of_lt{L:List RwI}{v:Value}{w:World}{base g B:Nat}(h:GivA w base g L)(hB:w.heap.size<=B)(hv:∀k,v.ownBlock=some k->B<=k):Gap L v:=λr hr k hk e=>by have:=((h.rows r hr).lt k hk).2;have:=hv k e;omega
theorem Gap.to_{L:List RwI}{v v':Value}{w:World}{base g B:Nat}(h:Gap L v)(hL:GivA w base g L)(hB:w.heap.size<=B)(hv:∀k,v'.ownBlock=some k->v.ownBlock=some k\/B<=k):Gap L v':=λr hr k hk e=>by
 rcases hv k e with h2|h2
 ·exact h r hr k hk h2
 ·have:=((hL.rows r hr).lt k hk).2;omega
section
variable {w W W':World}{c:Cfg}{y:Lay}{S S':WS}{K base:Nat}{ow:Nat->Tag}
theorem ShRow.congr{g m:Nat}{f f':Nat->Shf}{own:Nat->Prop}(h:ShRow w base g m f own)(hf:∀k,k<m->f' k=f k):ShRow w base g m f' own:=by obtain⟨⟨cs,vs,h1,h2⟩,o⟩:=h;exact⟨⟨cs,vs,λk hk=>by rw[hf k hk];exact h1 k hk,h2⟩,o⟩
theorem PW.congrSh(h:PW w c y S K base ow)(sh':Nat->Nat->Shf)(hs:∀i k,i<c.n->k<c.m->sh' i k=S.sh i k):PW w c y {S with sh:=sh'} K base ow:=by
 refine⟨λt=> ?_,h.low,h.fresh,h.cfg,h.may,h.bw⟩;have:=h.pc t;cases t with
 |sh i=>exact λhi=>(this hi).congr (hs i · hi)
 |_=>exact this
theorem PW.aged(h:PW w c y (S.tkTo c.m c.n 0) K base ow):PW w c y S.aged K base ow:=
 h.congrSh (λi k=>((S.sh i k).does zEe).1) λi k hi hk=>(if_pos (Or.inl ⟨hi,hk⟩)).symm
end
def treeF:OT:=(.fork (.next 8 (.fork (.next 9 (.fork (.next 10 (.fork (.next 11 (.next 12 (.next 13 (.next 14 .done)))) (.next 12 (.fork (.next 11 (.next 13 (.next 14 .done))) (.next 13 (.next 11 (.next 14 .done))))))) (.fork (.next 11 (.fork (.next 10 (.next 12 (.next 13 (.next 14 .done)))) (.next 12 (.next 10 (.next 13 (.next 14 .done)))))) (.next 12 (.fork (.next 10 (.fork (.next 11 (.next 13 (.next 14 .done))) (.next 13 (.next 11 (.next 14 .done))))) (.next 11 (.next 10 (.next 13 (.next 14 .done))))))))) (.next 12 (.next 9 (.fork (.next 10 (.fork (.next 11 (.next 13 (.next 14 .done))) (.next 13 (.next 11 (.next 14 .done))))) (.next 11 (.next 10 (.next 13 (.next 14 .done))))))))) (.next 12 (.next 8 (.next 9 (.fork (.next 10 (.fork (.next 11 (.next 13 (.next 14 .done))) (.next 13 (.next 11 (.next 14 .done))))) (.next 11 (.next 10 (.next 13 (.next 14 .done)))))))))
section
variable {w:World}{c:Cfg}{y:Lay}{S:WS}{K base:Nat}{ow:Nat->Tag}
theorem yEm(h:PW w c y S K base ow)(N:Nat)(hS:S.ok c N)(s:StpI)(i:Nat)(hi:i<c.n)(hw:s.who=i)(hb:¬ zJl c s):Calls prog 92 #[.pointer (some ⟨y.hb,0,none⟩),.pointer (some ⟨(y.br i).b,0,none⟩),s.val] w (fI w c y K base ow (zEd (fK c S s i).1,(fK c S s i).2)):=by
 obtain⟨kind,who,item,count,life,id,label,key⟩:=s;dsimp only at hw;unfold zJl at hb;dsimp only at hb;subst hw;unfold StpI.val;dsimp only;obtain⟨p,hp⟩:=kB w.heap.size;obtain⟨q,hq⟩:=kB (w.heap.size+1);obtain⟨wx,hwx⟩:=kB ((w.alloc (.cells #[.int .i64 kind,.int .i64 (i:Int),.int .i64 item,.int .i64 count,.int .i64 life,.int .i64 id,.int .i64 label,.int .i64 key] 48)).alloc (.cells (bR 0 0).cells.toArray 57));have hbx:uR w wx:=by rw[hwx];exact((qC _ _).alloc (qA _) _).alloc (by simp) _
 have kp:Blk wx p 48 #[.int .i64 kind,.int .i64 (i:Int),.int .i64 item,.int .i64 count,.int .i64 life,.int .i64 id,.int .i64 label,.int .i64 key]:=by rw[hwx,hp];exact(Blk.new w _ _).alloc _
 have kq:Blk wx q 57 (bR 0 0).cells.toArray:=by have h1:=Blk.new (w.alloc (.cells #[.int .i64 kind,.int .i64 (i:Int),.int .i64 item,.int .i64 count,.int .i64 life,.int .i64 id,.int .i64 label,.int .i64 key] 48)) 57 (bR 0 0).cells.toArray;rw[hwx,hq];simpa using h1
 have hx:=h.calm hbx;have HNO:=uT (λe W=>gA e W);unfold bR bY Tol.val Stk.none at HNO;dsimp only at HNO;have c1:wx.cell? ⟨y.hb,1,none⟩=some (.slice c.la.A c.la.n c.la.c):=(hx.pc .con).blk.cell 1;have hln:c.la.n=c.ln:=hx.cfg.1.1.symm;rw[hln]at c1;have s1:wx.cell? ⟨p,1,none⟩=some (.int .i64 (i:Int)):=kp.cell 1;have s0:wx.cell? ⟨p,0,none⟩=some (.int .i64 kind):=kp.cell 0;have s3:wx.cell? ⟨p,3,none⟩=some (.int .i64 count):=kp.cell 3;have s6:wx.cell? ⟨p,6,none⟩=some (.int .i64 label):=kp.cell 6;have s7:wx.cell? ⟨p,7,none⟩=some (.int .i64 key):=kp.cell 7;obtain⟨HX,HKQ,HBX,HP,HQ,HH,HWX⟩:=uN hx kq hbx hp hq h hwx;clear hx kp kq hbx hp hq h hwx hln;obtain⟨l,hl⟩:∃l:Nat,label=l:=⟨label.toNat,by omega⟩;subst hl;have hll:l<c.ln:=by omega
 obtain⟨bl,ol,z,hA,_,hz,hcz⟩:=dQ HX.s.cfg.1.2.2.2 (show l<c.la.n by rw[<-HX.s.cfg.1.1];exact hll);obtain⟨⟨hn,hn1,hn8⟩,_,_,_,_,hzs,_⟩:=bK HX.s.may;have hzb:=hzs z (qB hz);have hz255:z.toNat<=255:=by
  have h1:(2:Int)^c.n<=2^8:=by exact_mod_cast Nat.pow_le_pow_right (by omega) hn8
  have h2:=hzb.2;omega
 obtain⟨v,hv⟩:=kB z.toNat;have hzv:z=(v:Int):=by omega
 rw[hzv]at hcz hz;have HIN:=uT (λW=>yGc v i W (by omega) (by omega));rw[hA]at c1;have hlt:(l:Int)<(c.ln:Int):=by omega
 have HBC:=uT hb;have hgz:(c.la.zs.getD ((l:Int)).toNat 0).toNat=v:=by rw[qR,qG,hz];simp
 have hEV:fK c S ⟨kind,i,item,count,life,id,l,key⟩ i=(if v.testBit i=false then(bY 11 i,S)else if kind=7 then(bY 0 i,{S with st:=bN S.st i ((S.st i).set l (zFm ((S.st i).getD l []) i key count false))})else if(zAn ((S.st i).getD l []) key).2=false then(bY 6 i,S)else(⟨0,i,Stk.none,(zAn ((S.st i).getD l []) key).1.value,[],[],[]⟩,S)):=by unfold fK;dsimp only;rw[if_neg hb,hgz,qR]
 have HE:=uT hEV;have hst:=hS.st i;have hbr:=HX.s.pc .con|>.brs i hi
 have d3:wx.cell? ⟨(y.br i).b,3,none⟩=some (.slice (some ⟨(y.br i).t,0,none⟩) c.ln c.ln):=hbr.cell 3;obtain⟨HPUT,HFND,T1,T2,T3,T4,T5,T6,T7,T8⟩:=uQ (λW (hW:uR wx W)=>zVz (ow:=ow) (HX.s.calm hW) i l hi hll hst i key count false) (λW (hW:uR wx W)=>zTy (ow:=ow) (HX.s.calm hW) i l hi hll hst.1 key) c1 hcz d3 s0 s1 s3 s6 s7;have hg1:decide ((l:Int)<0)=false:=by simp
 have hg2:decide ((c.ln:Int)<=(l:Int))=false:=by simpa using hll
 have hg5:decide (c.ln<=l)=false:=by simpa using hll
 have hg3:decide (key<0)=false:=by simp;omega
 have hg4:decide (8<=key)=false:=by simp;omega
 clear hA hz hzb hz255 hv hzs hn hn1 hn8 hgz hEV hst hbr d3 hcz hb;go_enter func92,ntmps92;go_upto_region 1 with fail;rw[zAf,<-HWX.s,<-HQ.s,<-HP.s];have hd:((kind==7)=true/\decide (count<0)=false/\decide (255<count)=false)\/(kind==7)=false:=by have:=HBC.s;simp only[decide_eq_false_iff_not,beq_iff_eq,beq_eq_false_iff_ne];omega
 rcases hd with⟨a5,a6,a7⟩|a5
 ·go_quiet (fail);obtain⟨HW,HK2⟩:=uI (below_drewN (qC wx.heap.size wx) nq) (HKQ.s.drewN nq);generalize wx.drewN nq=w2 at HW HK2⊢;clear c1 s0 s1 s3 s6 s7;have t1:=λn:Ext w2=>Ext.cell (w:=wx) ⟨n.W,HW.s.trans (n.h.mono HW.s.size)⟩ T1.s
  have t2:=λn:Ext w2=>Ext.cell (w:=wx) ⟨n.W,HW.s.trans (n.h.mono HW.s.size)⟩ T2.s
  have t5:=λn:Ext w2=>Ext.cell (w:=wx) ⟨n.W,HW.s.trans (n.h.mono HW.s.size)⟩ T5.s
  have t7:=λn:Ext w2=>Ext.cell (w:=wx) ⟨n.W,HW.s.trans (n.h.mono HW.s.size)⟩ T7.s
  go_upto_region 3 with fail;have HIN2:=uT (λn:Ext w2=>(HIN.s n.W).mono λe w' (h:e= .returned (.bool (v.testBit i))/\n.W=w')=>And.intro h.1 (show uR n.W w' by rw[<-h.2];exact qC _ _));generalize v.testBit i=M at HIN2 HE;refine dR (by kernel_rfl) (by kernel_rfl) ?_
  repeat(go_big_quiet_step ((go_at_call 54;exact fT (HIN2.s _))))
  refine qF ?_;rintro _ ⟨nq2,rfl⟩;obtain⟨HW5,HK5⟩:=uI (HW.s.trans (nq2.h.mono HW.s.size)) (HK2.s.below nq2.h HK2.s.lt);generalize nq2.W=w5 at HW5 HK5⊢;clear t1 t2 t5 t7 HIN2;have r0:=Ext.cell (w:=wx) ⟨w5,HW5.s⟩ T4.s;have r1:=Ext.cell (w:=wx) ⟨w5,HW5.s⟩ T5.s;have r3:=Ext.cell (w:=wx) ⟨w5,HW5.s⟩ T6.s;have r6:=Ext.cell (w:=wx) ⟨w5,HW5.s⟩ T7.s;have r7:=Ext.cell (w:=wx) ⟨w5,HW5.s⟩ T8.s;have rd:=Ext.cell (w:=wx) ⟨w5,HW5.s⟩ T3.s;cases M with
  |false=>
   have HF:=uT (show fK c S ⟨kind,i,item,count,life,id,l,key⟩ i=(bY 11 i,S)from HE.s.trans (if_pos rfl));clear r0 r1 r3 r6 r7 rd;go_wp2_with fail;refine(HNO.s 11 w5).mono ?_;rintro _ w6 ⟨rfl,hb6⟩;obtain⟨HK6,HB6⟩:=uI (HK5.s.below hb6 HK5.s.lt) (HW5.s.trans (hb6.mono HW5.s.size));clear hb6;obtain⟨_,_,_,_,_,_,_,_,_,_,_⟩:=bW HK6.s;obtain⟨_,_,_,_,_,_,_,_,_,_,_⟩:=bS HK6.s;go_wp2_with fail;refine dC (w:=w6) (t:=(bR 11 0)) HK6.s rfl λw9 HO9=> ?_
   replace HO9:=uT HO9;refine(zAe 11 HF.s (Turned.nobody HH.s (HBX.s.trans (HB6.s.mono HBX.s.size)) HO9.s (by rw[HQ.s];omega)))
  |true=>
   have HF:=uT (show fK c S ⟨kind,i,item,count,life,id,l,key⟩ i=(bY 0 i,{S with st:=bN S.st i ((S.st i).set l (zFm ((S.st i).getD l []) i key count false))})from HE.s.trans (by rw[if_neg (by simp),if_pos (by simpa using a5)]));go_upto_region 6 with fail;have u0:=λn:Ext w5=>n.cell r0
   have u1:=λn:Ext w5=>n.cell r1
   have u3:=λn:Ext w5=>n.cell r3
   have u6:=λn:Ext w5=>n.cell r6
   have u7:=λn:Ext w5=>n.cell r7
   have ud:=λn:Ext w5=>n.cell rd
   clear r0 r1 r3 r6 r7 rd;refine gF 12 (by kernel_rfl) (by kernel_rfl) ?_;simp only[qX,jE,qZ,jL]
   repeat(go_big_quiet_step (fail))
   refine qF ?_;rintro _ ⟨nq3,rfl⟩;obtain⟨HW6,HK6⟩:=uI (HW5.s.trans (nq3.h.mono HW5.s.size)) (HK5.s.below nq3.h HK5.s.lt);generalize nq3.W=w6 at HW6 HK6⊢;clear u0 u1 u3 u6 u7 ud;go_wp2_with fail;refine(HPUT.s w6 HW6.s).mono ?_;rintro _ w7 ⟨rfl,ow7,hp7,hk7⟩;have hq7:Blk w7 q 57 (bR 0 0).cells.toArray:=hk7.blk HK6.s (HH.s.fresh q (by rw[HQ.s];omega));obtain⟨HK7,HP7,HKK,HN7⟩:=uK hq7 hp7 ((Kept.calm (HBX.s.trans (HW6.s.mono HBX.s.size))).trans hk7) (show ow7 q= .no from(hk7.old q HK6.s.lt).trans (HH.s.fresh q (by rw[HQ.s];omega)));clear hq7 hp7 hk7;obtain⟨_,_,_,_,_,_,_,_,_,_,_⟩:=bW HK7.s;obtain⟨_,_,_,_,_,_,_,_,_,_,_⟩:=bS HK7.s;go_wp2_with fail;refine dC (w:=w7) (t:=(bR 0 0)) HK7.s rfl λw9 HO9=> ?_
   replace HO9:=uT HO9;refine(zAe 0 HF.s (Turned.mk_ HP7.s HKK.s HO9.s (by rw[HQ.s];omega) HN7.s HH.s.bw))
 ·go_quiet (fail);obtain⟨HW,HK2⟩:=uI (below_drewN (qC wx.heap.size wx) nq) (HKQ.s.drewN nq);generalize wx.drewN nq=w2 at HW HK2⊢;clear c1 s0 s1 s3 s6 s7;have t1:=λn:Ext w2=>Ext.cell (w:=wx) ⟨n.W,HW.s.trans (n.h.mono HW.s.size)⟩ T1.s
  have t2:=λn:Ext w2=>Ext.cell (w:=wx) ⟨n.W,HW.s.trans (n.h.mono HW.s.size)⟩ T2.s
  have t5:=λn:Ext w2=>Ext.cell (w:=wx) ⟨n.W,HW.s.trans (n.h.mono HW.s.size)⟩ T5.s
  have t7:=λn:Ext w2=>Ext.cell (w:=wx) ⟨n.W,HW.s.trans (n.h.mono HW.s.size)⟩ T7.s
  go_upto_region 3 with fail;have HIN2:=uT (λn:Ext w2=>(HIN.s n.W).mono λe w' (h:e= .returned (.bool (v.testBit i))/\n.W=w')=>And.intro h.1 (show uR n.W w' by rw[<-h.2];exact qC _ _));generalize v.testBit i=M at HIN2 HE;refine dR (by kernel_rfl) (by kernel_rfl) ?_
  repeat(go_big_quiet_step ((go_at_call 54;exact fT (HIN2.s _))))
  refine qF ?_;rintro _ ⟨nq2,rfl⟩;obtain⟨HW5,HK5⟩:=uI (HW.s.trans (nq2.h.mono HW.s.size)) (HK2.s.below nq2.h HK2.s.lt);generalize nq2.W=w5 at HW5 HK5⊢;clear t1 t2 t5 t7 HIN2;have r0:=Ext.cell (w:=wx) ⟨w5,HW5.s⟩ T4.s;have r1:=Ext.cell (w:=wx) ⟨w5,HW5.s⟩ T5.s;have r3:=Ext.cell (w:=wx) ⟨w5,HW5.s⟩ T6.s;have r6:=Ext.cell (w:=wx) ⟨w5,HW5.s⟩ T7.s;have r7:=Ext.cell (w:=wx) ⟨w5,HW5.s⟩ T8.s;have rd:=Ext.cell (w:=wx) ⟨w5,HW5.s⟩ T3.s;cases M with
  |false=>
   have HF:=uT (show fK c S ⟨kind,i,item,count,life,id,l,key⟩ i=(bY 11 i,S)from HE.s.trans (if_pos rfl));clear r0 r1 r3 r6 r7 rd;go_wp2_with fail;refine(HNO.s 11 w5).mono ?_;rintro _ w6 ⟨rfl,hb6⟩;obtain⟨HK6,HB6⟩:=uI (HK5.s.below hb6 HK5.s.lt) (HW5.s.trans (hb6.mono HW5.s.size));clear hb6;obtain⟨_,_,_,_,_,_,_,_,_,_,_⟩:=bW HK6.s;obtain⟨_,_,_,_,_,_,_,_,_,_,_⟩:=bS HK6.s;go_wp2_with fail;refine dC (w:=w6) (t:=(bR 11 0)) HK6.s rfl λw9 HO9=> ?_
   replace HO9:=uT HO9;refine(zAe 11 HF.s (Turned.nobody HH.s (HBX.s.trans (HB6.s.mono HBX.s.size)) HO9.s (by rw[HQ.s];omega)))
  |true=>
   have HF:=uT (HE.s.trans (by rw[if_neg (by simp),if_neg (show ¬ kind=7 by simpa using a5)]));clear HPUT;generalize(zAn ((S.st i).getD l []) key)=fr at HFND HF;obtain⟨E,V⟩:=fr;obtain⟨ek,ev,et,ew,eg⟩:=E;unfold zCe at HFND;dsimp only at HFND HF;go_upto_region 8 with fail;have HFN:=uT (λn:Ext w5=>HFND.s n.W (HW5.s.trans (n.h.mono HW5.s.size)));have u6:=λn:Ext w5=>n.cell r6
   have u7:=λn:Ext w5=>n.cell r7
   have ud:=λn:Ext w5=>n.cell rd
   clear r0 r1 r3 r6 r7 rd
   go_cut [7,8] (λs7 s8 W=>∃b,s7= .pointer (some ⟨b,0,none⟩)/\s8= .bool V/\uS (Blk W b 125 #[.int .i64 ek,.int .i64 ev,.int .i64 et,.int .i64 ew,.bool eg]/\uR w5 W))
   case first=>
    refine fW [0,1,2,3,4,5,6,7] [8,9,10,11,12,13,14] treeF (by kernel_rfl) (by kernel_rfl) (by intro c a d v w h;cases d<;>exact h) ?_;simp only[bB,qJ,qO,qD,qE]
    repeat(go_big_quiet_step (fail))
    refine qF ?_;clear u6 u7 ud;have hd0:uR w5 w5.drew:=(qC _ w5).drew;generalize w5.drew=wc at hd0⊢;unfold treeF
    repeat' (first
     |(refine zAx ?_ ?_)
     |(refine gV ?_;go_wp2_with(fail);go_meet;exact⟨_,rfl,rfl,uT ⟨kb,hd0⟩⟩)
     |(refine bP λK0 hK0=> ?_;simp only[bB,qJ,qO,qD,qE];go_wp2_with(fail);refine hK0 _ wc (λ_=>⟨⟨_,hd0⟩,rfl⟩) ?_;clear hK0 K0)
     |(refine bP λK0 hK0=> ?_;simp only[bB,qJ,qO,qD,qE];go_wp2_with(fail);refine(HFN.s ⟨_,hd0⟩).mono ?_;rintro _ wc ⟨rfl,hb7⟩;(try(have kb:=kb.below hb7 kb.lt));have hd0:=hd0.trans (hb7.mono hd0.size);clear hb7;go_wp2_with(fail);refine hK0 _ wc (λ_=>⟨⟨_,hd0⟩,rfl⟩) ?_;clear hK0 K0)
     |(refine bP λK0 hK0=> ?_;simp only[bB,qJ,qO,qD,qE];go_wp2_with(fail);refine hK0 _ (wc.alloc (.cells #[.int .i64 0,.int .i64 0,.int .i64 0,.int .i64 0,.bool false] 125)) (λ_=>⟨⟨_,hd0.alloc hd0.size _⟩,rfl⟩) ?_;clear hK0 K0;have kb:=Blk.new wc 125 #[.int .i64 0,.int .i64 0,.int .i64 0,.int .i64 0,.bool false];have hd1:=hd0.alloc hd0.size (.cells #[.int .i64 0,.int .i64 0,.int .i64 0,.int .i64 0,.bool false] 125);have hbb:=hd0.size;clear hd0;generalize wc.heap.size=bb at kb hbb⊢;generalize wc.alloc (.cells #[.int .i64 0,.int .i64 0,.int .i64 0,.int .i64 0,.bool false] 125)=wc at kb hd1⊢;have hd0:=hd1;clear hd1)
     |(have q0:wc.cell? ⟨bb,0,none⟩=some (.int .i64 0):=kb.cell 0
       have q1:wc.cell? ⟨bb,1,none⟩=some (.int .i64 0):=kb.cell 1;have q2:wc.cell? ⟨bb,2,none⟩=some (.int .i64 0):=kb.cell 2;have q3:wc.cell? ⟨bb,3,none⟩=some (.int .i64 0):=kb.cell 3;have q4:wc.cell? ⟨bb,4,none⟩=some (.bool false):=kb.cell 4;have f0:=kb.frozen 0;have f1:=kb.frozen 1;have f2:=kb.frozen 2;have f3:=kb.frozen 3;have f4:=kb.frozen 4;refine bP λK0 hK0=> ?_
       simp only[bB,qJ,qO,qD,qE];go_wp2_with(fail);have kb:=zTh kb rfl (.int .i64 ek) (.int .i64 ev) (.int .i64 et) (.int .i64 ew) (.bool eg);have hd1:=Below.only hd0 (zPz wc bb (.int .i64 ek) (.int .i64 ev) (.int .i64 et) (.int .i64 ew) (.bool eg)) (λx hx e=>by omega) hd0.size;refine hK0 _ (ent5 wc bb (.int .i64 ek) (.int .i64 ev) (.int .i64 et) (.int .i64 ew) (.bool eg)) (λ_=>⟨⟨_,hd1⟩,rfl⟩) ?_;clear hK0 K0 q0 q1 q2 q3 q4 f0 f1 f2 f3 f4 hd0;generalize ent5 wc bb (.int .i64 ek) (.int .i64 ev) (.int .i64 et) (.int .i64 ew) (.bool eg)=wc at kb hd1⊢;have hd0:=hd1;clear hd1))
   case rest=>
    obtain⟨be,rfl,rfl,HKE⟩:=hcut;obtain⟨HKC,HWC⟩:=uI (HK5.s.below HKE.s.2 HK5.s.lt) (HW5.s.trans (HKE.s.2.mono HW5.s.size));have v1:wc.cell? ⟨be,1,none⟩=some (.int .i64 ev):=HKE.s.1.cell 1;cases V with
    |false=>
     have HG:=uT (HF.s.trans (if_pos rfl));clear v1;go_wp2_with fail;refine(HNO.s 6 wc).mono ?_;rintro _ w6 ⟨rfl,hb6⟩;obtain⟨HK6,HB6⟩:=uI (HKC.s.below hb6 HKC.s.lt) (HWC.s.trans (hb6.mono HWC.s.size));clear hb6;obtain⟨_,_,_,_,_,_,_,_,_,_,_⟩:=bW HK6.s;obtain⟨_,_,_,_,_,_,_,_,_,_,_⟩:=bS HK6.s;go_wp2_with fail;refine dC (w:=w6) (t:=(bR 6 0)) HK6.s rfl λw9 HO9=> ?_
     replace HO9:=uT HO9;refine(zAe 6 HG.s (Turned.nobody HH.s (HBX.s.trans (HB6.s.mono HBX.s.size)) HO9.s (by rw[HQ.s];omega)))
    |true=>
     have HG:=uT (HF.s.trans (if_neg (by simp)));obtain⟨_,_,_,_,_,_,_,_,_,_,_⟩:=bW HKC.s;obtain⟨_,_,_,_,_,_,_,_,_,_,_⟩:=bS HKC.s;go_wp2_with fail;refine dC (w:=wc) (t:=(⟨⟨0,0,Stk.none,ev,[],[],[]⟩,none,0,0,none,0,0,none,0,0⟩:Tol)) HKC.s rfl λw9 HO9=> ?_
     replace HO9:=uT HO9;refine(⟨(⟨⟨0,0,Stk.none,ev,[],[],[]⟩,none,0,0,none,0,0,none,0,0⟩:Tol),rfl,by rw[HG.s];rfl,⟨qH _ _ _ _,qH _ _ _ _,qH _ _ _ _⟩,by rw[HG.s];obtain⟨o1,h1,h2⟩:=Turned.nobody HH.s (HBX.s.trans (HWC.s.mono HBX.s.size)) HO9.s (by rw[HQ.s];omega);exact⟨o1,h1,h2,λv hv k hk=>by rcases hv with rfl|rfl|rfl<;>cases hk⟩⟩)
theorem yHw(h:PW w c y S K base ow)(N:Nat)(hS:S.ok c N)(s:StpI)(i:Nat)(hi:i<c.n)(hw:s.who=i):Calls prog 92 #[.pointer (some ⟨y.hb,0,none⟩),.pointer (some ⟨(y.br i).b,0,none⟩),s.val] w (fI w c y K base ow (zEd (fK c S s i).1,(fK c S s i).2)):=by
 by_cases hb:zJl c s
 ·exact yGd h s i hi hb
 ·exact yEm h N hS s i hi hw hb
end
def OrdT(w:World):Prop:=∀k:Nat,k<5->w.cell? ⟨0,k,none⟩=some (.int .i64 ((k:Int)+2))
section
variable {w:World}{c:Cfg}{y:Lay}{S:WS}{K base:Nat}{ow:Nat->Tag}
theorem TolOwn.put{t:Tol}{w w':World}{B b:Nat}(h:TolOwn t w B)(ho:Only (λk=>k=b) w w')(hb:b<B):TolOwn t w' B:=
 ⟨bL h.so ho (λg hg e=>by have:=(h.so.lt g hg).1;omega),bL h.fo ho (λg hg e=>by have:=(h.fo.lt g hg).1;omega),bL h.ro ho λg hg e=>by have:=(h.ro.lt g hg).1;omega⟩
theorem zBb{w2 w9:World}{ow2:Nat->Tag}{S':WS}{t:Tol}{B q:Nat}{r:zCl×WS}(hp:PW w2 c y S' K base ow2)(hk:Kept w w2 ow ow2)(hto:TolOwn t w2 B)(hB:q<B)(hwB:w.heap.size<=B)(ho:Only (λk=>k=q) w2 w9)(hq:w.heap.size<=q)(hn:ow2 q= .no)(htn:TolNo t ow2)(hd:t.d=r.1)(hr:r.2=S')(hw:base<=w.heap.size):fI w c y K base ow r (.returned t.val) w9:=by subst hr;exact⟨t,rfl,hd,(hto.put ho hB).mono hwB,ow2,hp.own ho hn (qN hw hq),⟨hk.only.trans ho (λx hx e=>by omega),hk.old⟩,htn⟩
theorem zZt(h:PW w c y S K base ow)(N:Nat)(hS:S.ok c N)(hN:N<=900000)(s:StpI)(i:Nat)(hi:i<c.n)(hw:s.who=i)(hk:s.kind=7\/s.kind=8):Calls prog 67 #[.pointer (some ⟨y.hb,0,none⟩),.pointer (some ⟨(y.br i).b,0,none⟩),s.val] w (fI w c y K base ow (zEd (fF c S s i).1,(fF c S s i).2)):=by
 obtain⟨HE,HEN⟩:=uI (show fF c S s i=fK c S s i from if_pos hk) (λW (hW:uR w W)=>yHw (h.calm hW) N hS s i hi hw);unfold StpI.val at HEN;obtain⟨kind,who,item,count,life,id,label,key⟩:=s;dsimp only at hk hw;unfold StpI.val;dsimp only;obtain⟨wx,p,q,hp,hq,hwx,hbx,kp,kq,hx,s0,s1,s2,s3,s4,s5,s6,s7,hnq,hnp⟩:=zCy h kind who item count life id label key;have HNO:=uT (λe W=>gA e W);unfold bR bY Tol.val Stk.none at HNO;dsimp only at HNO;obtain⟨HKP,HKQ,HBX,HP,HQ,HH,HWX,HNQ⟩:=uO kp kq hbx hp hq h hwx hnq;have hm3:=(bK h.may).2.2.2.1;dsimp only at HEN;clear hx kp kq hbx hp hq h hwx s1 s2 s3 s4 s5 s6 s7 hw;have hd:(kind==7)=true\/((kind==7)=false/\(kind==8)=true):=by simp only[beq_iff_eq,beq_eq_false_iff_ne];omega
 go_enter func67,ntmps67;go_upto_region 1 with fail;rw[zAf,<-HWX.s,<-HQ.s,<-HP.s];have s1:=HKP.s.cell 1;have s2:=HKP.s.cell 2;have s3:=HKP.s.cell 3;have s4:=HKP.s.cell 4;have s5:=HKP.s.cell 5;have s6:=HKP.s.cell 6;have s7:=HKP.s.cell 7;rcases hd with a1|⟨a1,a2⟩
 all_goals
  go_wp2_with fail;refine(HEN.s wx HBX.s).mono ?_;rintro _ w2 ⟨t,rfl,hd,hto,ow2,hp2,hk2,hn2⟩;obtain⟨HK2,HP2,HKK,HN2,HTO,HTN,HTD⟩:=uN (hk2.blk HKQ.s HNQ.s) hp2 ((Kept.calm HBX.s).trans hk2) (show ow2 q= .no from(hk2.old q HKQ.s.lt).trans HNQ.s) hto hn2 hd;unfold Tol.val;clear hp2 hk2 hto hn2 hd s0 s1 s2 s3 s4 s5 s6 s7;obtain⟨_,_,_,_,_,_,_,_,_,_,_⟩:=bW HK2.s;obtain⟨_,_,_,_,_,_,_,_,_,_,_⟩:=bS HK2.s;go_wp2_with fail;refine dC (w:=w2) (t:=t) HK2.s rfl λw9 HO9=> ?_
  replace HO9:=uT HO9;refine(zBb HP2.s HKK.s HTO.s HKQ.s.lt HBX.s.size HO9.s (by rw[HQ.s];omega) HN2.s HTN.s (HTD.s.trans (by rw[HE.s])) (by rw[HE.s]) HH.s.bw)
theorem zZe(h:PW w c y S K base ow)(N:Nat)(hS:S.ok c N)(hN:N<=900000)(s:StpI)(i:Nat)(hi:i<c.n)(hw:s.who=i)(hk:¬ (s.kind=7\/s.kind=8))(hb:s.item<0\/(c.m:Int)<=s.item):Calls prog 67 #[.pointer (some ⟨y.hb,0,none⟩),.pointer (some ⟨(y.br i).b,0,none⟩),s.val] w (fI w c y K base ow (zEd (fF c S s i).1,(fF c S s i).2)):=by
 have HE:=uT (show fF c S s i=(bY 2 i,S)from(if_neg hk).trans (if_pos hb));obtain⟨kind,who,item,count,life,id,label,key⟩:=s;dsimp only at hk hw;unfold StpI.val;dsimp only;obtain⟨wx,p,q,hp,hq,hwx,hbx,kp,kq,hx,s0,s1,s2,s3,s4,s5,s6,s7,hnq,hnp⟩:=zCy h kind who item count life id label key;have HNO:=uT (λe W=>gA e W);unfold bR bY Tol.val Stk.none at HNO;dsimp only at HNO;obtain⟨HKQ,HBX,HP,HQ,HH,HWX⟩:=uM kq hbx hp hq h hwx;have hm3:=(bK h.may).2.2.2.1;dsimp only at hb;have d1:wx.cell? ⟨(y.br i).b,1,none⟩=some (.slice (some ⟨(y.br i).a,0,none⟩) c.m c.m):=((hx.pc .con).brs i hi).cell 1;clear hx kp kq hbx hp hq h hwx s1 s3 s4 s5 s6 s7 hw;have a1:(kind==7)=false:=by simp only[beq_eq_false_iff_ne];omega
 have a2:(kind==8)=false:=by simp only[beq_eq_false_iff_ne];omega
 have hd:decide (item<0)=true\/(decide (item<0)=false/\decide ((c.m:Int)<=item)=true):=by simp only[decide_eq_true_eq,decide_eq_false_iff_not];omega
 clear hb hk;go_enter func67,ntmps67;go_upto_region 1 with fail;rw[zAf,<-HWX.s,<-HQ.s,<-HP.s];go_upto_region 3 with fail;rcases hd with b1|⟨b1,b2⟩
 all_goals
  go_quiet (fail);obtain⟨HW,HK2⟩:=uI (below_drewN (qC wx.heap.size wx) nq) (HKQ.s.drewN nq);generalize wx.drewN nq=w2 at HW HK2⊢;clear d1 s0 s2;go_wp2_with fail;refine(HNO.s 2 w2).mono ?_;rintro _ w6 ⟨rfl,hb6⟩;obtain⟨HK6,HB6⟩:=uI (HK2.s.below hb6 HK2.s.lt) (HW.s.trans (hb6.mono HW.s.size));clear hb6;obtain⟨_,_,_,_,_,_,_,_,_,_,_⟩:=bW HK6.s;obtain⟨_,_,_,_,_,_,_,_,_,_,_⟩:=bS HK6.s;go_wp2_with fail;refine dC (w:=w6) (t:=(bR 2 0)) HK6.s rfl λw9 HO9=> ?_
  replace HO9:=uT HO9;refine(zAe 2 HE.s (Turned.nobody HH.s (HBX.s.trans (HB6.s.mono HBX.s.size)) HO9.s (by rw[HQ.s];omega)))
theorem yDc(h:PW w c y S K base ow)(N:Nat)(hS:S.ok c N)(hN:N<=900000)(s:StpI)(i:Nat)(hi:i<c.n)(hw:s.who=i)(hk:s.kind=1)(hb:0<=s.item/\s.item<c.m):Calls prog 67 #[.pointer (some ⟨y.hb,0,none⟩),.pointer (some ⟨(y.br i).b,0,none⟩),s.val] w (fI w c y K base ow (zEd (fF c S s i).1,(fF c S s i).2)):=by
 obtain⟨kind,who,item,count,life,id,label,key⟩:=s;dsimp only at hk hw;unfold StpI.val;dsimp only;obtain⟨wx,p,q,hp,hq,hwx,hbx,kp,kq,hx,s0,s1,s2,s3,s4,s5,s6,s7,hnq,hnp⟩:=zCy h kind who item count life id label key;have HNO:=uT (λe W=>gA e W);unfold bR bY Tol.val Stk.none at HNO;dsimp only at HNO;obtain⟨HX,HKP,HKQ,HBX,HP,HQ,HH,HWX,HNQ⟩:=uP hx kp kq hbx hp hq h hwx hnq;have hm3:=(bK h.may).2.2.2.1;dsimp only at hb;obtain⟨k,hkk⟩:∃k:Nat,item=k:=⟨item.toNat,by omega⟩;subst hkk;subst hk;have hkm:k<c.m:=by omega
 obtain⟨z,hz⟩:∃z,(S.ask i)[k]? =some z:=⟨_,qI (by rw[(hS.ask i).1];exact hkm)⟩;have hzb:=(hS.ask i).2 z (qB hz);have hgz:(S.ask i).getD k 0=z:=by rw[qG,hz];rfl
 have HE:=uT (show fF c S ⟨1,who,k,count,life,id,label,key⟩ i=(if count<1\/1048576<count then(bY 2 i,S)else if 1048576<z+count then(bY 12 i,S)else(bY 0 i,{S with ask:=bN S.ask i ((S.ask i).set k (z+count))}))by unfold fF;dsimp only;rw[if_neg (by omega),if_neg (by omega),if_pos rfl,qR,hgz])
 have d1:wx.cell? ⟨(y.br i).b,1,none⟩=some (.slice (some ⟨(y.br i).a,0,none⟩) c.m c.m):=((hx.pc .con).brs i hi).cell 1;have e1:wx.cell? ⟨(y.br i).a,k,none⟩=some (.int .i64 z):=IRow.cell (hx.pc (.ask i) hi).row hz;obtain⟨HKL,D1,E1,T2,T3⟩:=uL (show k<(S.ask i).length by rw[(hS.ask i).1];exact hkm) d1 e1 s2 s3;clear hx kp kq hbx hp hq h hwx s1 s4 s5 s6 s7 hw hgz hz;have b1:decide ((k:Int)<0)=false:=by simp
 have b2:decide ((c.m:Int)<=(k:Int))=false:=by simp;omega
 have b3:decide (c.m<=k)=false:=by simp;omega
 have hkm2:(k:Int)<(c.m:Int):=by omega
 go_enter func67,ntmps67;go_upto_region 1 with fail;rw[zAf,<-HWX.s,<-HQ.s,<-HP.s];go_upto_region 3 with fail;go_quiet (fail);obtain⟨HW,HK2⟩:=uI (below_drewN (qC wx.heap.size wx) nq) (HKQ.s.drewN nq);generalize wx.drewN nq=w2 at HW HK2⊢;clear d1 s0 s2 s3 e1;have r0:=Ext.cell (w:=wx) ⟨w2,HW.s⟩ (HKP.s.cell 0);have r2:=Ext.cell (w:=wx) ⟨w2,HW.s⟩ T2.s;have r3:=Ext.cell (w:=wx) ⟨w2,HW.s⟩ T3.s;have d1:=Ext.cell (w:=wx) ⟨w2,HW.s⟩ D1.s;have e1:=Ext.cell (w:=wx) ⟨w2,HW.s⟩ E1.s;by_cases hc:count<1\/1048576<count
 ·have HG:=uT (HE.s.trans (if_pos hc));have hd:decide (count<1)=true\/(decide (count<1)=false/\decide (1048576<count)=true):=by simp only[decide_eq_true_eq,decide_eq_false_iff_not];omega
  clear hc;rcases hd with a1|⟨a1,a2⟩
  all_goals
   go_wp2_with fail;refine(HNO.s 2 w2).mono ?_;rintro _ w6 ⟨rfl,hb6⟩;obtain⟨HK6,HB6⟩:=uI (HK2.s.below hb6 HK2.s.lt) (HW.s.trans (hb6.mono HW.s.size));clear hb6;obtain⟨_,_,_,_,_,_,_,_,_,_,_⟩:=bW HK6.s;obtain⟨_,_,_,_,_,_,_,_,_,_,_⟩:=bS HK6.s;go_wp2_with fail;refine dC (w:=w6) (t:=(bR 2 0)) HK6.s rfl λw9 HO9=> ?_
   replace HO9:=uT HO9;refine(zAe 2 HG.s (Turned.nobody HH.s (HBX.s.trans (HB6.s.mono HBX.s.size)) HO9.s (by rw[HQ.s];omega)))
 ·have a1:decide (count<1)=false:=by simp;omega
  have a2:decide (1048576<count)=false:=by simp;omega
  have hcb:1<=count/\count<=1048576:=by omega
  have HG:=uT (HE.s.trans (if_neg hc));clear hc HE;go_upto_region 8 with fail;go_quiet (fail);obtain⟨HW3,HK3⟩:=uI (below_drewN HW.s nq) (HK2.s.drewN nq);generalize w2.drewN nq=w3 at HW3 HK3⊢;clear r0 r2 r3 d1 e1;by_cases ho:1048576<z+count
  ·have a3:decide (1048576<z+count)=true:=by simpa using ho
   rw[a3];have HF:=uT (HG.s.trans (if_pos ho));clear ho;go_wp2_with fail;refine(HNO.s 12 w3).mono ?_;rintro _ w6 ⟨rfl,hb6⟩;obtain⟨HK6,HB6⟩:=uI (HK3.s.below hb6 HK3.s.lt) (HW3.s.trans (hb6.mono HW3.s.size));clear hb6;obtain⟨_,_,_,_,_,_,_,_,_,_,_⟩:=bW HK6.s;obtain⟨_,_,_,_,_,_,_,_,_,_,_⟩:=bS HK6.s;go_wp2_with fail;refine dC (w:=w6) (t:=(bR 12 0)) HK6.s rfl λw9 HO9=> ?_
   replace HO9:=uT HO9;refine(zAe 12 HF.s (Turned.nobody HH.s (HBX.s.trans (HB6.s.mono HBX.s.size)) HO9.s (by rw[HQ.s];omega)))
  ·have a3:decide (1048576<z+count)=false:=by simpa using ho
   rw[a3];have HF:=uT (HG.s.trans (if_neg ho));clear ho;go_upto_region 10 with fail;have r2:=λn:Nat=>show(w3.drewN n).cell? ⟨p,2,none⟩=some (.int .i64 (k:Int))from Ext.cell (w:=wx) ⟨w3,HW3.s⟩ T2.s
   have r3:=λn:Nat=>show(w3.drewN n).cell? ⟨p,3,none⟩=some (.int .i64 count)from Ext.cell (w:=wx) ⟨w3,HW3.s⟩ T3.s
   have d1:=λn:Nat=>show(w3.drewN n).cell? ⟨(y.br i).b,1,none⟩=some (.slice (some ⟨(y.br i).a,0,none⟩) c.m c.m)from Ext.cell (w:=wx) ⟨w3,HW3.s⟩ D1.s
   have e1:=λn:Nat=>show(w3.drewN n).cell? ⟨(y.br i).a,k,none⟩=some (.int .i64 z)from Ext.cell (w:=wx) ⟨w3,HW3.s⟩ E1.s
   refine bV 12 (by kernel_rfl) (by kernel_rfl) ?_;simp only[qX,jE,qZ,jL]
   repeat(go_big_quiet_step (fail))
   refine qF ?_;rintro _ ⟨nq,rfl⟩;obtain⟨HP4,HK4,HB4⟩:=uJ ((HX.s.calm HW3.s).calm (below_drewN (qC _ w3) nq)) (HK3.s.drewN nq) (show uR w (w3.drewN nq)from below_drewN (HBX.s.trans (HW3.s.mono HBX.s.size)) nq);have e2:=e1 nq;clear r2 r3 d1 e1;generalize w3.drewN nq=w4 at HP4 HK4 HB4 e2⊢;have e3:w4.frozen? ⟨(y.br i).a,k,none⟩=false:=IRow.frozen (HP4.s.pc (.ask i) hi).row k;go_upto_region 11 with fail;obtain⟨ow5,hp5,hk5⟩:=PW.setAsk HP4.s hi HKL.s (z+count);obtain⟨HP5,HK5,HKK,HN5⟩:=uK hp5 (hk5.blk HK4.s HNQ.s) ((Kept.calm (ow:=ow) HB4.s).trans hk5) (show ow5 q= .no from(hk5.old q HK4.s.lt).trans HNQ.s);clear hp5 hk5 e2 e3;generalize w4.setCell ⟨(y.br i).a,k,none⟩ (.int .i64 (z+count))=w5 at HP5 HK5 HKK⊢;obtain⟨_,_,_,_,_,_,_,_,_,_,_⟩:=bW HK5.s;obtain⟨_,_,_,_,_,_,_,_,_,_,_⟩:=bS HK5.s;go_wp2_with fail;refine dC (w:=w5) (t:=(bR 0 0)) HK5.s rfl λw9 HO9=> ?_
   replace HO9:=uT HO9;refine(zAe 0 HF.s (Turned.mk_ HP5.s HKK.s HO9.s (by rw[HQ.s];omega) HN5.s HH.s.bw))
end
structure zAl(P:World->Prop) where
 W:World
 h:P W
def treeO:OT:= .fork (.next 19 (.next 20 (.next 21 .done))) (.next 20 (.next 19 (.next 21 .done)))
def stk5(W:World)(b:Nat)(s:Stk):World:=((((W.setCell ⟨b,0,none⟩ (.int .i64 s.code)).setCell ⟨b,1,none⟩ (.int .i64 s.id)).setCell ⟨b,2,none⟩ (.int .i64 s.free)).setCell ⟨b,3,none⟩ (.int .i64 s.held)).setCell ⟨b,4,none⟩ (.int .i64 s.used)
theorem stk5_blk{W:World}{b:Nat}{cs:Array Value}(h:Blk W b 40 cs)(hs:cs.size=5)(s:Stk):Blk (stk5 W b s) b 40 #[.int .i64 s.code,.int .i64 s.id,.int .i64 s.free,.int .i64 s.held,.int .i64 s.used]:=by have h8:=((((h.set_ 0 (.int .i64 s.code)).set_ 1 (.int .i64 s.id)).set_ 2 (.int .i64 s.free)).set_ 3 (.int .i64 s.held)).set_ 4 (.int .i64 s.used);rw[arr5 cs hs]at h8;exact h8
theorem zHt(W:World)(b:Nat)(s:Stk):Only (λk=>k=b) W (stk5 W b s):=bJ (bJ (bJ (bJ (bJ (Only.refl _ W) 0 _) 1 _) 2 _) 3 _) 4 _
def OrdCut(w:World)(c:Cfg)(y:Lay)(S':WS)(K base:Nat)(ow:Nat->Tag)(q b:Nat)(s:Stk)(W:World):Prop:=
 ∃ow',PW W c y S' K base ow'/\Kept w W ow ow'/\ow' q= .no/\Blk W q 57 (bR 0 0).cells.toArray/\Blk W b 40 #[.int .i64 s.code,.int .i64 s.id,.int .i64 s.free,.int .i64 s.held,.int .i64 s.used]
def zIw(c:Cfg)(b g p:Nat)(cs:Array Value)(W:World):Prop:=W.cell? ⟨b,0,none⟩=some (.slice (some ⟨g,0,none⟩) c.m c.m)/\Blk W p 48 cs/\OrdT W
section
variable {w:World}{c:Cfg}{y:Lay}{S:WS}{K base:Nat}{ow:Nat->Tag}
theorem zHc{W:World}{S':WS}{ow':Nat->Tag}{i p:Nat}{cs:Array Value}(hp:PW W c y S' K base ow')(hi:i<c.n)(hk:Blk W p 48 cs)(ho:OrdT W):zIw c (y.br i).b (y.br i).s p cs W:=⟨((hp.pc .con).brs i hi).cell 0,hk,ho⟩
theorem zUz{w7:World}{S':WS}{ow7:Nat->Tag}{q b:Nat}{cs:Array Value}(hp:PW w7 c y S' K base ow7)(hk:Kept w w7 ow ow7)(hqn:ow7 q= .no)(hq:Blk w7 q 57 (bR 0 0).cells.toArray)(hb:Blk w7 b 40 cs)(hcs:cs.size=5)(hbn:ow7 b= .no)(hbw:w.heap.size<=b)(hw:base<=w.heap.size)(s:Stk):OrdCut w c y S' K base ow q b s (stk5 w7 b s):=
 ⟨ow7,hp.own (zHt w7 b s) hbn (qN hw hbw),⟨hk.only.trans (zHt w7 b s) (λx hx e=>by omega),hk.old⟩,hqn,hq.only (zHt w7 b s) (λe=>by have:=hq.ne_ hb (by decide);exact this e),stk5_blk hb hcs s⟩
theorem OrdT.below{W:World}(h:OrdT w)(hg:0<base)(hb:Below base w W):OrdT W:=λj hj=>(hb.cell (p:=⟨_,j,none⟩) hg).trans (h j hj)
theorem zYy(h:PW w c y S K base ow)(N:Nat)(hS:S.ok c N)(hN:N<=900000)(s:StpI)(i:Nat)(hi:i<c.n)(hw:s.who=i)(hT:OrdT w)(hg:0<base)(hk:s.kind=2\/s.kind=3\/s.kind=4\/s.kind=5\/s.kind=6)(hb:0<=s.item/\s.item<c.m):Calls prog 67 #[.pointer (some ⟨y.hb,0,none⟩),.pointer (some ⟨(y.br i).b,0,none⟩),s.val] w (fI w c y K base ow (zEd (fF c S s i).1,(fF c S s i).2)):=by
 obtain⟨kind,who,item,count,life,id,label,key⟩:=s;dsimp only at hk hw;unfold StpI.val;dsimp only;obtain⟨wx,p,q,hp,hq,hwx,hbx,kp,kq,hx,s0,s1,s2,s3,s4,s5,s6,s7,hnq,hnp⟩:=zCy h kind who item count life id label key;have HNO:=uT (λe W=>gA e W);unfold bR bY Tol.val Stk.none at HNO;dsimp only at HNO;obtain⟨HX,HKP,HKQ,HBX,HP,HQ,HH,HWX,HNQ,HNP⟩:=uQ hx kp kq hbx hp hq h hwx hnq hnp;have hm3:=(bK h.may).2.2.2.1;dsimp only at hb;obtain⟨k,hkk⟩:∃k:Nat,item=k:=⟨item.toNat,by omega⟩;subst hkk;have hkm:k<c.m:=by omega
 have HE:=uT (show fF c S ⟨kind,who,k,count,life,id,label,key⟩ i=(⟨((S.sh i k).does ⟨kind,count,life,id⟩).2.code,i,{((S.sh i k).does ⟨kind,count,life,id⟩).2 with code:=0},0,[],[],[]⟩,{S with sh:=bN S.sh i (bN (S.sh i) k ((S.sh i k).does ⟨kind,count,life,id⟩).1)})by unfold fF;dsimp only;rw[if_neg (by omega),if_neg (by omega),if_neg (by omega),qR])
 have HDO:=uT (λW (hW:uR wx W)=>zIz (ow:=ow) ⟨kind,count,life,id⟩ i k (hx.calm hW) hi hkm N (hS.sh i k) (by omega));generalize(S.sh i k).does ⟨kind,count,life,id⟩=r at HDO HE;obtain⟨sB,⟨rc,ri,rf,rh,ru⟩⟩:=r;unfold Stk.val Ordr.val at HDO;dsimp only at HDO HE;have hbw:Below base w wx:=hbx.mono h.bw;have hTw:=hT;have HOT:=uT (show OrdT wx from λj hj=>(hbw.cell (p:=⟨_,j,none⟩) hg).trans (hT j hj));have d0:wx.cell? ⟨(y.br i).b,0,none⟩=some (.slice (some ⟨(y.br i).s,0,none⟩) c.m c.m):=((hx.pc .con).brs i hi).cell 0;have d1:wx.cell? ⟨(y.br i).b,1,none⟩=some (.slice (some ⟨(y.br i).a,0,none⟩) c.m c.m):=((hx.pc .con).brs i hi).cell 1;clear hx kp kq hbx hp hq h hwx s1 s6 s7 hw d0 hbw hT;have b1:decide ((k:Int)<0)=false:=by simp
 have b2:decide ((c.m:Int)<=(k:Int))=false:=by simp;omega
 have b3:decide (c.m<=k)=false:=by simp;omega
 have hkm2:(k:Int)<(c.m:Int):=by omega
 obtain⟨kk,hkk⟩:∃kk:Nat,kind=(kk:Int)+2:=⟨(kind-2).toNat,by omega⟩;subst hkk;have hk5:kk<5:=by omega
 have a1:((kk:Int)+2==1)=false:=by simp only[beq_eq_false_iff_ne];omega
 have a7:((kk:Int)+2==7)=false:=by simp only[beq_eq_false_iff_ne];omega
 have a8:((kk:Int)+2==8)=false:=by simp only[beq_eq_false_iff_ne];omega
 have hk5':(kk:Int)<5:=by omega
 go_enter func67,ntmps67;go_upto_region 1 with fail;rw[zAf,<-HWX.s,<-HQ.s,<-HP.s];go_upto_region 3 with fail;go_quiet (fail);have HW:=uT (below_drewN (qC wx.heap.size wx) nq);generalize wx.drewN nq=w2 at HW⊢;clear d1 s0 s2 s3 s4 s5;have r0:=Ext.cell (w:=wx) ⟨w2,HW.s⟩ (HKP.s.cell 0);go_upto_region 12 with fail;clear r0
 go_cut [7] (λs7 W=>∃bs,s7= .pointer (some ⟨bs,0,none⟩)/\uS (OrdCut w c y {S with sh:=bN S.sh i (bN (S.sh i) k sB)} K base ow q bs ⟨rc,ri,rf,rh,ru⟩ W))
 case first=>
  obtain⟨cs,hcs⟩:∃cs:Array Value,cs=#[.int .i64 ((kk:Int)+2),.int .i64 who,.int .i64 (k:Int),.int .i64 count,.int .i64 life,.int .i64 id,.int .i64 label,.int .i64 key]:=⟨_,rfl⟩;have HKS:=uT (show Blk w2 p 48 cs by rw[hcs];exact HKP.s.below HW.s HKP.s.lt);have hR2:zIw c (y.br i).b (y.br i).s p cs w2.drew:=zHc (HX.s.calm (HW.s.drew)) hi HKS.s.drew (HOT.s.below (base:=wx.heap.size) (jQ hg HX.s.bw) (HW.s.drew));have t0:=λn:zAl (zIw c (y.br i).b (y.br i).s p cs)=>n.h.1
  have t1:∀n:zAl (zIw c (y.br i).b (y.br i).s p cs),n.W.cell? ⟨p,0,none⟩=some (.int .i64 ((kk:Int)+2)):=λn=>by rw[n.h.2.1.cell 0,hcs];rfl
  have t2:∀n:zAl (zIw c (y.br i).b (y.br i).s p cs),n.W.cell? ⟨p,2,none⟩=some (.int .i64 (k:Int)):=λn=>by rw[n.h.2.1.cell 2,hcs];rfl
  have t3:∀n:zAl (zIw c (y.br i).b (y.br i).s p cs),n.W.cell? ⟨p,3,none⟩=some (.int .i64 count):=λn=>by rw[n.h.2.1.cell 3,hcs];rfl
  have t4:∀n:zAl (zIw c (y.br i).b (y.br i).s p cs),n.W.cell? ⟨p,4,none⟩=some (.int .i64 life):=λn=>by rw[n.h.2.1.cell 4,hcs];rfl
  have t5:∀n:zAl (zIw c (y.br i).b (y.br i).s p cs),n.W.cell? ⟨p,5,none⟩=some (.int .i64 id):=λn=>by rw[n.h.2.1.cell 5,hcs];rfl
  have t6:∀n:zAl (zIw c (y.br i).b (y.br i).s p cs),n.W.cell? ⟨0,kk,none⟩=some (.int .i64 ((kk:Int)+2)):=λn=>n.h.2.2 kk hk5
  haveI hne:Nonempty (zAl (zIw c (y.br i).b (y.br i).s p cs)):=⟨⟨_,hR2⟩⟩;clear hcs;refine zCn (C:=λw'=>∃n:zAl (zIw c (y.br i).b (y.br i).s p cs),w'=n.W) [0,1,2,3,4,5,6,7,8,9,10,11,12,13,14,15,16,17,18] [19,20,21] treeO (by kernel_rfl) (by kernel_rfl) (by intro c a d v w h;cases d<;>exact h) ⟨⟨_,hR2⟩,rfl⟩ ?_;simp only[bB,qJ,qO,qD,qE]
  repeat(go_big_quiet_step (fail))
  refine qF ?_;have hd0:uR wx w2.drew:=HW.s.drew;have hPd:=HKS.s.drew;generalize w2.drew=wd at hd0 hPd hR2⊢;have hQd:=HKQ.s.below hd0 HKQ.s.lt;have hOd:=hR2.2.2;have hOw:OrdT w:=hTw;clear t0 t1 t2 t3 t4 t5 t6 hR2;unfold treeO;refine zAx ?_ ?_
  ·refine bP λK0 hK0=> ?_
   simp only[bB,qJ,qO,qD,qE];go_wp2_with fail;refine(HDO.s wd hd0).mono ?_;rintro _ w7 ⟨rfl,ow7,hp7,hk7⟩;have hkk:Kept w w7 ow ow7:=(Kept.calm (HBX.s.trans (hd0.mono HBX.s.size))).trans hk7;have hQ7:=hk7.blk hQd HNQ.s;have hP7:=hk7.blk hPd HNP.s;have hq7:ow7 q= .no:=(hk7.old q hQd.lt).trans HNQ.s;have hOO:=hOw.below hg (hkk.below HH.s);go_wp2_with fail;refine hK0 _ w7 (λ_=>⟨⟨_,zHc hp7 hi hP7 hOO⟩,rfl⟩) ?_;clear hK0 K0;refine bP λK0 hK0=> ?_
   simp only[bB,qJ,qO,qD,qE];go_wp2_with fail;obtain⟨w8,hw8⟩:=kB (w7.alloc (.cells #[.int .i64 0,.int .i64 0,.int .i64 0,.int .i64 0,.int .i64 0] 40));obtain⟨bs,hbs⟩:=kB w7.heap.size;have hb8:=uH hw8;have kb:Blk w8 bs 40 #[.int .i64 0,.int .i64 0,.int .i64 0,.int .i64 0,.int .i64 0]:=by rw[hw8,hbs];exact Blk.new _ _ _
   rw[<-hw8,<-hbs];have hPP:=hP7.below hb8 hP7.lt;have hbw:w.heap.size<=bs:=by rw[hbs];exact hkk.only.size
   have hcut:=zUz (hp7.calm hb8) (hkk.trans (Kept.calm hb8)) hq7 (hQ7.below hb8 hQ7.lt) kb rfl (hp7.fresh bs (by omega)) hbw HH.s.bw ⟨rc,ri,rf,rh,ru⟩;refine hK0 _ w8 (λ_=>⟨⟨_,zHc (hp7.calm hb8) hi hPP (hOw.below hg ((hkk.trans (Kept.calm hb8)).below HH.s))⟩,rfl⟩) ?_;clear hK0 K0 hw8 hbs;have q0:w8.cell? ⟨bs,0,none⟩=some (.int .i64 0):=kb.cell 0;have q1:w8.cell? ⟨bs,1,none⟩=some (.int .i64 0):=kb.cell 1;have q2:w8.cell? ⟨bs,2,none⟩=some (.int .i64 0):=kb.cell 2;have q3:w8.cell? ⟨bs,3,none⟩=some (.int .i64 0):=kb.cell 3;have q4:w8.cell? ⟨bs,4,none⟩=some (.int .i64 0):=kb.cell 4;have f0:=kb.frozen 0;have f1:=kb.frozen 1;have f2:=kb.frozen 2;have f3:=kb.frozen 3;have f4:=kb.frozen 4;refine bP λK0 hK0=> ?_
   simp only[bB,qJ,qO,qD,qE];go_wp2_with fail;refine hK0 _ (stk5 w8 bs ⟨rc,ri,rf,rh,ru⟩) (λ_=>⟨⟨_,zHc (hcut.choose_spec.1) hi (hPP.only (zHt w8 bs ⟨rc,ri,rf,rh,ru⟩) λe=>hPP.ne_ kb (by decide) e) (hOw.below hg ((hcut.choose_spec.2.1).below HH.s))⟩,rfl⟩) ?_;refine gV ?_;go_wp2_with fail;go_meet;exact⟨bs,rfl,uT hcut⟩
  ·refine bP λK0 hK0=> ?_
   simp only[bB,qJ,qO,qD,qE];go_wp2_with fail;obtain⟨w6,hw6⟩:=kB (wd.alloc (.cells #[.int .i64 0,.int .i64 0,.int .i64 0,.int .i64 0,.int .i64 0] 40));obtain⟨bs,hbs⟩:=kB wd.heap.size;have hb6:=uH hw6;have kb:Blk w6 bs 40 #[.int .i64 0,.int .i64 0,.int .i64 0,.int .i64 0,.int .i64 0]:=by rw[hw6,hbs];exact Blk.new _ _ _
   rw[<-hw6,<-hbs];have hd6:=hd0.trans (hb6.mono hd0.size);have hbn:ow bs= .no:=(HX.s.calm hd0).fresh bs (by omega);have hbw:w.heap.size<=bs:=by rw[hbs];exact qN HBX.s.size hd0.size
   have hP6:=hPd.below hb6 hPd.lt;refine hK0 _ w6 (λ_=>⟨⟨_,zHc (HX.s.calm hd6) hi hP6 (hOw.below hg ((Kept.calm (HBX.s.trans (hd6.mono HBX.s.size))).below HH.s))⟩,rfl⟩) ?_;clear hK0 K0 hw6 hbs;refine bP λK0 hK0=> ?_
   simp only[bB,qJ,qO,qD,qE];go_wp2_with fail;refine(HDO.s w6 hd6).mono ?_;rintro _ w7 ⟨rfl,ow7,hp7,hk7⟩;have hkk:Kept w w7 ow ow7:=(Kept.calm (HBX.s.trans (hd6.mono HBX.s.size))).trans hk7;have hQ7:=hk7.blk (hQd.below hb6 hQd.lt) HNQ.s;have hPP:=hk7.blk hP6 HNP.s;have hbn7:ow7 bs= .no:=(hk7.old bs kb.lt).trans hbn;have hq7:ow7 q= .no:=(hk7.old q (hQd.below hb6 hQd.lt).lt).trans HNQ.s;have kb:=hk7.blk kb hbn;have hcut:=zUz hp7 hkk hq7 hQ7 kb rfl hbn7 hbw HH.s.bw ⟨rc,ri,rf,rh,ru⟩;go_wp2_with fail;refine hK0 _ w7 (λ_=>⟨⟨_,zHc hp7 hi hPP (hOw.below hg (hkk.below HH.s))⟩,rfl⟩) ?_;clear hK0 K0;have q0:w7.cell? ⟨bs,0,none⟩=some (.int .i64 0):=kb.cell 0;have q1:w7.cell? ⟨bs,1,none⟩=some (.int .i64 0):=kb.cell 1;have q2:w7.cell? ⟨bs,2,none⟩=some (.int .i64 0):=kb.cell 2;have q3:w7.cell? ⟨bs,3,none⟩=some (.int .i64 0):=kb.cell 3;have q4:w7.cell? ⟨bs,4,none⟩=some (.int .i64 0):=kb.cell 4;have f0:=kb.frozen 0;have f1:=kb.frozen 1;have f2:=kb.frozen 2;have f3:=kb.frozen 3;have f4:=kb.frozen 4;refine bP λK0 hK0=> ?_
   simp only[bB,qJ,qO,qD,qE];go_wp2_with fail;refine hK0 _ (stk5 w7 bs ⟨rc,ri,rf,rh,ru⟩) (λ_=>⟨⟨_,zHc (hcut.choose_spec.1) hi (hPP.only (zHt w7 bs ⟨rc,ri,rf,rh,ru⟩) λe=>hPP.ne_ kb (by decide) e) (hOw.below hg ((hcut.choose_spec.2.1).below HH.s))⟩,rfl⟩) ?_;refine gV ?_;go_wp2_with fail;go_meet;exact⟨bs,rfl,uT hcut⟩
 case rest=>
  obtain⟨bs,rfl,HC⟩:=hcut;obtain⟨owc,hpc,hkc,hqc,hQc,hbc⟩:=HC.s;have v0:wc.cell? ⟨bs,0,none⟩=some (.int .i64 rc):=hbc.cell 0;have v1:wc.cell? ⟨bs,1,none⟩=some (.int .i64 ri):=hbc.cell 1;have v2:wc.cell? ⟨bs,2,none⟩=some (.int .i64 rf):=hbc.cell 2;have v3:wc.cell? ⟨bs,3,none⟩=some (.int .i64 rh):=hbc.cell 3;have v4:wc.cell? ⟨bs,4,none⟩=some (.int .i64 ru):=hbc.cell 4;obtain⟨HPC,HKC,HNC,HQC⟩:=uK hpc hkc hqc hQc;clear hpc hkc hqc hQc hbc;go_upto_region 14 with fail;obtain⟨w8,hw8⟩:=kB (wc.alloc (.cells #[.int .i64 rc,.int .i64 0,.int .i64 rc,.int .i64 ri,.int .i64 rf,.int .i64 rh,.int .i64 ru,.int .i64 0,.slice none 0 0,.slice none 0 0,.slice none 0 0] 57));obtain⟨b8,hb8⟩:=kB wc.heap.size;have kb:Blk w8 b8 57 #[.int .i64 rc,.int .i64 0,.int .i64 rc,.int .i64 ri,.int .i64 rf,.int .i64 rh,.int .i64 ru,.int .i64 0,.slice none 0 0,.slice none 0 0,.slice none 0 0]:=by rw[hw8,hb8];exact Blk.new _ _ _
  have hbl:=uH hw8;rw[<-hw8,<-hb8];obtain⟨HP8,HK8,HQ8,HN8,HL8,HNE⟩:=uM (HPC.s.calm hbl) (HKC.s.trans (Kept.calm hbl)) (HQC.s.below hbl HQC.s.lt) (show owc b8= .no from HPC.s.fresh b8 (by omega)) (show w.heap.size<=b8 from by rw[hb8];exact HKC.s.only.size) (show q≠b8 from λe=>by have:=HQC.s.lt;omega);have x2:w8.cell? ⟨b8,2,none⟩=some (.int .i64 rc):=kb.cell 2;have y2:=kb.frozen 2;have HKB:=uT kb;clear hw8 hb8 kb hbl v0 v1 v2 v3 v4;go_upto_region 15 with fail;have k9:=HKB.s.set_ 2 (.int .i64 0);have ho9:Only (λk=>k=b8) w8 (w8.setCell ⟨b8,2,none⟩ (.int .i64 0)):=bJ (Only.refl _ w8) 2 _;obtain⟨HKT,HP9,HKK,HQ9⟩:=uK (show Blk (w8.setCell ⟨b8,2,none⟩ (.int .i64 0)) b8 57 ((⟨⟨rc,0,⟨0,ri,rf,rh,ru⟩,0,[],[],[]⟩,none,0,0,none,0,0,none,0,0⟩:Tol)).cells.toArray from k9) (HP8.s.own ho9 HN8.s (qN HH.s.bw HL8.s)) (show Kept w (w8.setCell ⟨b8,2,none⟩ (.int .i64 0)) ow owc from⟨HK8.s.only.trans ho9 (λx hx e=>by have:=HL8.s;omega),HK8.s.old⟩) (HQ8.s.only ho9 λe=>HNE.s e);clear k9 ho9 x2 y2;generalize w8.setCell ⟨b8,2,none⟩ (.int .i64 0)=w9 at HKT HP9 HKK HQ9⊢;obtain⟨x0,x1,x2,x3,x4,x5,x6,x7,x8,x9,x10⟩:=dM HKT.s;obtain⟨_,_,_,_,_,_,_,_,_,_,_⟩:=bW HQ9.s;obtain⟨_,_,_,_,_,_,_,_,_,_,_⟩:=bS HQ9.s;go_wp2_with fail;change bodyPost _ _ _ _ _ (wrT w9 q (⟨⟨rc,0,⟨0,ri,rf,rh,ru⟩,0,[],[],[]⟩,none,0,0,none,0,0,none,0,0⟩:Tol));have k9:=zFu HQ9.s rfl (⟨⟨rc,0,⟨0,ri,rf,rh,ru⟩,0,[],[],[]⟩,none,0,0,none,0,0,none,0,0⟩:Tol);have HO9:=uT (zDr w9 q (⟨⟨rc,0,⟨0,ri,rf,rh,ru⟩,0,[],[],[]⟩,none,0,0,none,0,0,none,0,0⟩:Tol));generalize wrT w9 q (⟨⟨rc,0,⟨0,ri,rf,rh,ru⟩,0,[],[],[]⟩,none,0,0,none,0,0,none,0,0⟩:Tol)=w10 at k9 HO9⊢;refine bodyPost_ret (v:=((⟨⟨rc,0,⟨0,ri,rf,rh,ru⟩,0,[],[],[]⟩,none,0,0,none,0,0,none,0,0⟩:Tol)).val) (zLu k9) rfl (⟨(⟨⟨rc,0,⟨0,ri,rf,rh,ru⟩,0,[],[],[]⟩,none,0,0,none,0,0,none,0,0⟩:Tol),rfl,by rw[HE.s];rfl,⟨qH _ _ _ _,qH _ _ _ _,qH _ _ _ _⟩,by rw[HE.s];obtain⟨o1,h1,h2⟩:=Turned.mk_ HP9.s HKK.s HO9.s (by rw[HQ.s];omega) HNC.s HH.s.bw;exact⟨o1,h1,h2,λv hv k hk=>by rcases hv with rfl|rfl|rfl<;>cases hk⟩⟩)
theorem yEu(h:PW w c y S K base ow)(N:Nat)(hS:S.ok c N)(hN:N<=900000)(hT:OrdT w)(hg:0<base)(s:StpI)(i:Nat)(hi:i<c.n)(hw:s.who=i)(hk:1<=s.kind/\s.kind<=8):Calls prog 67 #[.pointer (some ⟨y.hb,0,none⟩),.pointer (some ⟨(y.br i).b,0,none⟩),s.val] w (fI w c y K base ow (zEd (fF c S s i).1,(fF c S s i).2)):=by
 by_cases h78:s.kind=7\/s.kind=8
 ·exact zZt h N hS hN s i hi hw h78
 by_cases hb:s.item<0\/(c.m:Int)<=s.item
 ·exact zZe h N hS hN s i hi hw h78 hb
 by_cases h1:s.kind=1
 ·exact yDc h N hS hN s i hi hw h1 (by omega)
 ·exact zYy h N hS hN s i hi hw hT hg (by omega) (by omega)
end
section
variable {w:World}{c:Cfg}{y:Lay}{S:WS}{K base:Nat}{ow:Nat->Tag}
theorem due_zero{id:Int}(h:gD S id=0):∃(k:Nat) (p:PoD),id=k/\S.lts[k]? =some p/\0<=p.to_/\S.top p.fr p.to_<=k/\toP S.lts id=p.to_:=by
 unfold gD WS.to_ at h
 split at h
 ·cases h
 ·rename_i h1;have hid:0<=id:=by
   refine Int.not_lt.1 λe=>h1 ?_
   unfold toP;rw[if_pos e];decide
  obtain⟨k,rfl⟩:=qP hid;rw[qR]at h;cases hp:S.lts[k]? with
  |none=>rw[hp]at h;cases h
  |some p=>
   rw[hp]at h;dsimp only at h;have htp:toP S.lts k=p.to_:=by unfold toP;rw[if_neg (by omega),qR,hp]
   refine⟨k,p,rfl,hp,by rw[<-htp];omega,?_,htp⟩
   split at h
   ·cases h
   ·rename_i h2;simp only[Bool.or_eq_true,decide_eq_true_eq,not_or]at h2;omega
theorem zYr(h:PW w c y S K base ow)(N:Nat)(hS:S.ok c N)(hN:N<=10000)(hK:K<1000000)(id:Int)(hwf:(Lit.int .i64 id).wf=true)(hd:gD S id=6):Calls prog 64 #[.pointer (some ⟨y.hb,0,none⟩),.int .i64 id] w (fI w c y (K+1) base ow (fZ c S id)):=by
 have HE:=uT (show fZ c S id=(bY 6 0,S)from if_pos hd);obtain⟨q,hq⟩:=kB w.heap.size;obtain⟨wx,hwx⟩:=kB (w.alloc (.cells (bR 0 0).cells.toArray 57));have hbx:=uH hwx;have kq:Blk wx q 57 (bR 0 0).cells.toArray:=by rw[hwx,hq];exact Blk.new _ _ _
 have hx:=h.calm hbx;have hlen:S.lts.length<=1000000:=by have:=hS.len;omega
 have HNO:=uT (λe W=>gA e W);unfold bR bY Tol.val Stk.none at HNO;dsimp only at HNO;obtain⟨HDU,HKQ,HBX,HQ,HH,HWX⟩:=uM (zOl hx id hwf hlen) kq hbx hq h hwx;rw[hd]at HDU;clear hx kq hbx hq h hwx hd;go_enter func64,ntmps64;go_upto_region 1 with fail;rw[zAf,<-HWX.s,<-HQ.s];go_wp2_with fail;refine HDU.s.mono ?_;rintro _ w2 ⟨rfl,hb2⟩;obtain⟨HK2,HB2⟩:=uI (HKQ.s.below hb2 HKQ.s.lt) (HBX.s.trans (hb2.mono HBX.s.size));clear hb2;go_wp2_with fail;refine(HNO.s 6 w2).mono ?_;rintro _ w6 ⟨rfl,hb6⟩;obtain⟨HK6,HB6⟩:=uI (HK2.s.below hb6 HK2.s.lt) (HB2.s.trans (hb6.mono HB2.s.size));clear hb6;obtain⟨_,_,_,_,_,_,_,_,_,_,_⟩:=bW HK6.s;obtain⟨_,_,_,_,_,_,_,_,_,_,_⟩:=bS HK6.s;go_wp2_with fail;refine dC (w:=w6) (t:=(bR 6 0)) HK6.s rfl λw9 HO9=> ?_
 replace HO9:=uT HO9;refine(by rw[HE.s];obtain⟨o1,h1,h2⟩:=Turned.nobody HH.s HB6.s HO9.s (by rw[HQ.s];exact qA _);exact⟨bR 6 0,rfl,rfl,zDn _ _ _ _,o1,h1.more (jF K),h2,zEr _ _ _⟩)
theorem yAb(h:PW w c y S K base ow)(N:Nat)(hS:S.ok c N)(hN:N<=10000)(hK:K<1000000)(id:Int)(hwf:(Lit.int .i64 id).wf=true)(hd:gD S id≠6)(hd0:gD S id≠0):Calls prog 64 #[.pointer (some ⟨y.hb,0,none⟩),.int .i64 id] w (fI w c y (K+1) base ow (fZ c S id)):=by
 obtain⟨p,hE,hto⟩:∃p:PoD,fZ c S id=(bY (gD S id) p.to_,S)/\toP S.lts id=p.to_:=by
  unfold fZ;rw[if_neg hd];cases hp:S.lts[id.toNat]? with
  |none=>
   exfalso
   apply hd;unfold gD;rw[hp]
   split<;>rfl
  |some p=>
   dsimp only;rw[if_pos hd0];refine⟨p,rfl,?_⟩;unfold toP;rw[hp];refine if_neg λe=>hd ?_
   unfold gD WS.to_ toP;rw[if_pos e];rfl
 obtain⟨q,hq⟩:=kB w.heap.size;obtain⟨wx,hwx⟩:=kB (w.alloc (.cells (bR 0 0).cells.toArray 57));have hbx:=uH hwx;have kq:Blk wx q 57 (bR 0 0).cells.toArray:=by rw[hwx,hq];exact Blk.new _ _ _
 have hx:=h.calm hbx;have hlen:S.lts.length<=1000000:=by have:=hS.len;omega
 have HNO:=uT (λe W=>gA e W);unfold bR bY Tol.val Stk.none at HNO;dsimp only at HNO;obtain⟨HDU,HX,HKQ,HBX,HQ,HH,HWX⟩:=uN (zOl hx id hwf hlen) hx kq hbx hq h hwx;obtain⟨⟨v,ps,m,hof,_,hps,_,_⟩,_,_⟩:=h.pc .off;have hpl:ps.length=S.lts.length:=by rw[<-hps,qQ]
 have HTO:=uT (λW (hW:uR w W)=>zGr base y.og y.ob m v ps S.top W id (hof.calm hW) (by omega));rw[hps,hto]at HTO;have HE:=uT hE;have d6:(gD S id==6)=false:=by simpa using hd
 have d0:(gD S id==0)=false:=by simpa using hd0
 have d1:(gD S id !=0)=true:=by simpa using hd0
 generalize gD S id=D at HDU HE d6 d0 d1;clear hx kq hbx hq h hwx hd hd0 hof hps hpl hto hE;go_enter func64,ntmps64;go_upto_region 1 with fail;rw[zAf,<-HWX.s,<-HQ.s];go_wp2_with fail;refine HDU.s.mono ?_;rintro _ w2 ⟨rfl,hb2⟩;obtain⟨HK2,HB2,HX2⟩:=uJ (HKQ.s.below hb2 HKQ.s.lt) (HBX.s.trans (hb2.mono HBX.s.size)) (HX.s.calm hb2);clear hb2;have c7:=(HX2.s.pc .con).blk.cell 7;go_upto_region 4 with fail;go_wp2_with fail;refine(HTO.s w2 HB2.s).mono ?_;rintro _ _ ⟨rfl,rfl⟩;go_upto_region 5 with fail;obtain⟨w3,hw3⟩:=kB (w2.alloc (.cells ((⟨⟨D,p.to_,⟨0,0,0,0,0⟩,0,[],[],[]⟩,none,0,0,none,0,0,none,0,0⟩:Tol)).cells.toArray 57));obtain⟨b3,hb3⟩:=kB w2.heap.size;have kb:Blk w3 b3 57 ((⟨⟨D,p.to_,⟨0,0,0,0,0⟩,0,[],[],[]⟩,none,0,0,none,0,0,none,0,0⟩:Tol)).cells.toArray:=by rw[hw3,hb3];exact Blk.new _ _ _
 have hbl:=uH hw3;rw[show(#[.int .i64 D,.int .i64 p.to_,.int .i64 0,.int .i64 0,.int .i64 0,.int .i64 0,.int .i64 0,.int .i64 0,.slice none 0 0,.slice none 0 0,.slice none 0 0]:Array Value)=((⟨⟨D,p.to_,⟨0,0,0,0,0⟩,0,[],[],[]⟩,none,0,0,none,0,0,none,0,0⟩:Tol)).cells.toArray from rfl,<-hw3,<-hb3];obtain⟨HK3,HB3⟩:=uI (HK2.s.below hbl HK2.s.lt) (HB2.s.trans (hbl.mono HB2.s.size));obtain⟨x0,x1,x2,x3,x4,x5,x6,x7,x8,x9,x10⟩:=dM kb;clear hw3 hb3 kb hbl c7;obtain⟨_,_,_,_,_,_,_,_,_,_,_⟩:=bW HK3.s;obtain⟨_,_,_,_,_,_,_,_,_,_,_⟩:=bS HK3.s;go_wp2_with fail;refine dC (w:=w3) (t:=(⟨⟨D,p.to_,⟨0,0,0,0,0⟩,0,[],[],[]⟩,none,0,0,none,0,0,none,0,0⟩:Tol)) HK3.s rfl λw9 HO9=> ?_
 replace HO9:=uT HO9;refine(by rw[HE.s];obtain⟨o1,h1,h2⟩:=Turned.nobody HH.s HB3.s HO9.s (by rw[HQ.s];exact qA _);exact⟨(⟨⟨D,p.to_,⟨0,0,0,0,0⟩,0,[],[],[]⟩,none,0,0,none,0,0,none,0,0⟩:Tol),rfl,rfl,⟨qH _ _ _ _,qH _ _ _ _,qH _ _ _ _⟩,o1,h1.more (jF K),h2,λv hv k hk=>by rcases hv with rfl|rfl|rfl<;>cases hk⟩)
end
section
variable {w:World}{c:Cfg}{y:Lay}{S:WS}{K base:Nat}{ow:Nat->Tag}
structure GainAt(w:World)(c:Cfg)(y:Lay)(S:WS)(K base:Nat)(ow:Nat->Tag)(i:Nat)(l:List Int)(k:Nat)(wr:World)(ow':Nat->Tag):Prop where
 pw:PW wr c y (dH i l k S) K base ow'
 kept:Kept w wr ow ow'
theorem yHs(h:PW w c y S K base ow)(N:Nat)(ho:S.ok c N)(hN:N<=900000)(i:Nat)(hi:i<c.n)(A:Option Addr)(n cc b0:Nat)(l:List Int)(hl:l.length=n)(hv:∀z∈l,0<=z/\z<=1048576)(hn:n<=c.m)(hr:w.ownsRow b0 3 1 (.slice A n cc) n (l.map (.int .i64)))(hno:∀k,(Value.slice A n cc).ownBlock=some k->ow k= .no):Calls prog 88 #[.pointer (some ⟨(y.br i).b,0,none⟩),.slice A n cc] w λe w'=>e= .returned (.tuple #[])/\Turned w c y (dH i l n S) K base ow w':=by
 have hm3:=(bK h.may).2.2.2.1;obtain⟨HG,HR,HNO,HV,HS0⟩:=uL (λk=>zLo i l hv ho k) hr hno hv (show GainAt w c y S K base ow i l 0 w ow from⟨h,Kept.refl _ _⟩);clear h ho hr hno hv hl;go_enter func88,ntmps88;go_wp2_with fail
 go_loopw [8] (λj W=>∃(k:Nat) (ow':Nat->Tag),k<=n/\j= .int .i64 k/\uS (GainAt w c y S K base ow i l k W ow')) (λj _=>n-(intOf j).toNat)
 case atStart=>exact⟨0,ow,qL _,rfl,HS0⟩
 case round=>
  obtain⟨k,ow1,hk,rfl,HA⟩:=hrel;by_cases hlt:k<n
  ·have hlt':(k:Int)<(n:Int):=by omega
   have hrow:=Reads.of_own (HA.s.kept.own HR.s HNO.s);obtain⟨b,o,z,rfl,_,hz,hcz⟩:=dQ hrow hlt;have hcon:=HA.s.pw.pc .con;have hbr:=hcon.brs i hi;have hg:=HA.s.pw.pc (.gn i) hi;have hok:=(HG.s k).1;have hkg:k<((dH i l k S).gn i).length:=by rw[(hok.gn i).1];omega
   obtain⟨z0,hz0⟩:∃z0,((dH i l k S).gn i)[k]? =some z0:=⟨_,qI hkg⟩;have d0:wr.cell? ⟨(y.br i).b,0,none⟩=some (.slice (some ⟨(y.br i).s,0,none⟩) c.m c.m):=hbr.cell 0;have d2:wr.cell? ⟨(y.br i).b,2,none⟩=some (.slice (some ⟨(y.br i).g,0,none⟩) c.m c.m):=hbr.cell 2;have e0:=hg.row.cell hz0;have hkm:(k:Int)<(c.m:Int):=by omega
   have hkm':k<c.m:=by omega
   have hzb:=HV.s z (qB hz);have hz0b:=(hok.gn i).2 z0 (qB hz0);have hgz:l.getD k 0=z:=by rw[qG,hz];rfl
   have hgz0:((dH i l k S).gn i).getD k 0=z0:=by rw[qG,hz0];rfl
   have HDO:=uT (λn:Ext wr=>zIz (ow:=ow1) ⟨1,z-z0,0,0⟩ i k (HA.s.pw.calm n.h) hi hkm' N ((HG.s k).2 i k (Or.inr (qA _))) (by omega));have HGN:=uT (show dH i l (k+1) S=if z0<z then{dH i l k S with sh:=bN (dH i l k S).sh i (bN ((dH i l k S).sh i) k (((dH i l k S).sh i k).does ⟨1,z-z0,0,0⟩).1),gn:=bN (dH i l k S).gn i (((dH i l k S).gn i).set k z)}else dH i l k S by rw[dH,gnAt,hgz,hgz0])
   have HK:=uT hkg;clear hrow hbr hcon hg hok hz hz0 hkg hgz hgz0;by_cases hzz:z0<z
   ·go_upto_region 4 with fail;unfold Ordr.val at HDO;dsimp only at HDO;have q0:=λn:Ext wr=>n.cell d0
    have q2:=λn:Ext wr=>n.cell d2
    have q3:=λn:Ext wr=>n.cell e0
    clear d0 d2 e0 hcz;refine gF 16 (by kernel_rfl) (by kernel_rfl) ?_;simp only[qX,jE,qZ,jL]
    repeat(go_big_quiet_step (fail))
    refine qF ?_;rintro _ ⟨nq,rfl⟩;go_wp2_with fail;refine(HDO.s nq).mono ?_;rintro _ w2 ⟨rfl,ow2,hp2,hk2⟩;have hbr2:=(hp2.pc .con).brs i hi;have hg2:=hp2.pc (.gn i) hi;have d2:w2.cell? ⟨(y.br i).b,2,none⟩=some (.slice (some ⟨(y.br i).g,0,none⟩) c.m c.m):=hbr2.cell 2;have e0:=hg2.row.cell (show((dH i l k S).gn i)[k]? =some (((dH i l k S).gn i)[k]'HK.s)from qI _);have e1:=hg2.row.frozen k;obtain⟨HP2,HK2⟩:=uI hp2 hk2;have hkn:=nq.h;have HKN:=uT hkn;clear hbr2 hg2 hp2 hk2 q0 q2 q3 hkn;go_upto_region 5 with fail;go_wp2_with fail;obtain⟨ow3,hp3,hk3⟩:=PW.setGn HP2.s hi HK.s z;have e:=HGN.s;rw[if_pos hzz]at e;refine⟨⟨k+1,ow3,by omega,by go_num,uT ⟨by rw[e];exact hp3,((HA.s.kept.trans (Kept.calm HKN.s)).trans HK2.s).trans hk3⟩⟩,by simp[intOf];omega⟩
   ·go_upto_region 4 with fail;go_wp2_with fail;have e:=HGN.s;rw[if_neg (Int.not_lt.2 hzz)]at e;refine⟨⟨k+1,by omega,by simp,ow1,uT ⟨by rw[e];exact HA.s.pw,HA.s.kept⟩⟩,by simp[intOf];omega⟩
  ·obtain rfl:k=n:=by omega
   go_wp2_with fail
   go_end0
   exact⟨rfl,_,HA.s.pw,HA.s.kept⟩
end
end Go.Proofs.YtbolcebmbpepdaaGreatDoor
