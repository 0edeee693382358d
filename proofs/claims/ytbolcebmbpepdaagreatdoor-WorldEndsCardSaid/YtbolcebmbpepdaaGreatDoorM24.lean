/- Contracts. Conditions: those each states. -/
import Derived.Test.YtbolcebmbpepdaaGreatDoorM23
namespace Go.Proofs.YtbolcebmbpepdaaGreatDoor
set_option maxRecDepth 100000
set_option maxHeartbeats 8000000
set_option linter.all false
open Go.RowKit Tryz
def tolF(p:PoD)(A:Option Addr)(n cc:Nat):Tol:=⟨⟨0,p.to_,⟨0,0,0,0,0⟩,0,[],p.data,[]⟩,none,0,0,A,n,cc,none,0,0⟩
structure DelAt(w:World)(c:Cfg)(y:Lay)(S':WS)(K base:Nat)(ow:Nat->Tag)(q b:Nat)(p:PoD)(A:Option Addr)(n cc:Nat)(W:World)(ow':Nat->Tag):Prop where
 pw:PW W c y S' K base ow'
 kept:Kept w W ow ow'
 qn:ow' q= .no
 bn:ow' b= .no
 qk:Blk W q 57 (bR 0 0).cells.toArray
 bk:Blk W b 57 (tolF p A n cc).cells.toArray
 row:W.ownsRow w.heap.size 5 1 (.slice A n cc) n (p.data.map (.int .u8))
 rn:∀k,(Value.slice A n cc).ownBlock=some k->ow' k= .no
 rq:∀k,(Value.slice A n cc).ownBlock=some k->k≠q
theorem DelAt.turn{w W W':World}{c:Cfg}{y:Lay}{S1 S2:WS}{K base q b n cc:Nat}{ow ow1 ow2:Nat->Tag}{p:PoD}{A:Option Addr}(h:DelAt w c y S1 K base ow q b p A n cc W ow1)(hp:PW W' c y S2 K base ow2)(hk:Kept W W' ow1 ow2):DelAt w c y S2 K base ow q b p A n cc W' ow2:=
 ⟨hp,h.kept.trans hk,(hk.old q h.qk.lt).trans h.qn,(hk.old b h.bk.lt).trans h.bn,hk.blk h.qk h.qn,hk.blk h.bk h.bn,hk.own h.row h.rn,λk hk'=>(hk.old k (h.row.lt k hk').2).trans (h.rn k hk'),h.rq⟩
theorem DelAt.calm{w W W':World}{c:Cfg}{y:Lay}{S1:WS}{K base q b n cc:Nat}{ow ow1:Nat->Tag}{p:PoD}{A:Option Addr}(h:DelAt w c y S1 K base ow q b p A n cc W ow1)(hb:uR W W'):DelAt w c y S1 K base ow q b p A n cc W' ow1:=
 h.turn (h.pw.calm hb) (Kept.calm hb)
theorem DelAt.fin{w W W':World}{c:Cfg}{y:Lay}{S1:WS}{K base q b n cc:Nat}{ow ow1:Nat->Tag}{p:PoD}{A:Option Addr}(h:DelAt w c y S1 K base ow q b p A n cc W ow1)(ho:Only (λk=>k=q) W W')(hq:q=w.heap.size)(hbw:base<=w.heap.size){r:zCl×WS}(hr:r=(⟨0,p.to_,Stk.none,0,[],p.data,[]⟩,S1)):fI w c y K base ow r (.returned (tolF p A n cc).val) W':=by
 subst hr;refine⟨tolF p A n cc,rfl,rfl,⟨qH _ _ _ _,bL h.row ho (λk hk e=>h.rq k hk e),qH _ _ _ _⟩,ow1,h.pw.own ho h.qn (by omega),⟨h.kept.only.trans ho (λx hx e=>by omega),h.kept.old⟩,λv hv k hk=> ?_⟩;rcases hv with rfl|rfl|rfl
 ·cases hk
 ·exact h.rn k hk
 ·cases hk
def zQp(l:List Int)(W:World)(ow':Nat->Tag)(v:Value):Prop:=∃A n c b0,v= .slice A n c/\l.length=n/\W.ownsRow b0 3 1 (.slice A n c) n (l.map (.int .i64))/\∀k,(Value.slice A n c).ownBlock=some k->ow' k= .no
theorem zLm(S:WS)(fr:Nat)(l:List Int)(k:Nat):S.wants fr l (k+1)={S.wants fr l k with bk:=bN (S.wants fr l k).bk k (zCs ((S.wants fr l k).bk k) fr (l.getD k 0))}:=by
 have hk:(S.wants fr l k).bk k=S.bk k:=if_neg (Nat.lt_irrefl k);have h:(S.wants fr l (k+1)).bk=bN (S.wants fr l k).bk k (zCs ((S.wants fr l k).bk k) fr (l.getD k 0)):=by
  funext j
  rw[hk,zBq];show(if j<k+1 then zCs (S.bk j) fr (l.getD j 0)else S.bk j)=if j=k then _ else(if j<k then zCs (S.bk j) fr (l.getD j 0)else S.bk j)
  by_cases h1:j=k
  ·subst h1;rw[if_pos (by omega),if_pos rfl]
  ·rw[if_neg h1];by_cases h2:j<k
   ·rw[if_pos (by omega),if_pos h2]
   ·rw[if_neg (by omega),if_neg h2]
 show WS.mk _ _ _ _ _ _ _ _=_;rw[<-h];rfl
theorem zQm(S:WS)(fr:Nat)(l:List Int):S.wants fr l 0=S:=by show WS.mk _ _ _ _ _ _ _ _=S;simp
def TabAt(t:TabR)(W:World)(ow':Nat->Tag):Prop:=∃B,TabMine B W t/\(∀g,t.A=some ⟨g,0,none⟩->t.rs≠[]->ow' g= .no)/\∀r∈t.rs,∀k,r.val.ownBlock=some k->ow' k= .no
theorem TabAt.turn{t:TabR}{W W':World}{ow1 ow2:Nat->Tag}(h:TabAt t W ow1)(hk:Kept W W' ow1 ow2):TabAt t W' ow2:=by
 obtain⟨B,⟨h3,h4⟩,h5,h6⟩:=h;refine⟨B,⟨?_,λr hr=>hk.own (h4 r hr) (h6 r hr)⟩,λg hg hne=> ?_,λr hr k hk'=>(hk.old k ((h4 r hr).lt k hk').2).trans (h6 r hr k hk')⟩
 ·rcases h3 with h3|⟨g,g1,g2,g3⟩
  ·exact Or.inl h3
  ·by_cases hne:t.rs=[]
   ·exact Or.inl hne
   ·exact Or.inr ⟨g,g1,g2,hk.blk g3 (h5 g g2 hne)⟩
 ·rcases h3 with h3|⟨g',g1,g2,g3⟩
  ·exact absurd h3 hne
  ·rw[hg]at g2;cases g2;exact(hk.old _ g3.lt).trans (h5 _ hg hne)
def TabCut(R:List (List Ent))(W:World)(ow':Nat->Tag)(v:Value):Prop:=∃t:TabR,v=t.val/\t.es=R/\TabAt t W ow'
theorem zPn(S:WS)(i:Nat)(R:List (List Ent))(k:Nat)(es:List Ent)(hk:R.getD k []=es):S.learns i R (k+1)={S.learns i R k with st:=bN (S.learns i R k).st i (((S.learns i R k).st i).set k (dY (((S.learns i R k).st i).getD k []) es).1)}:=by unfold WS.learns;dsimp only;rw[dD,zVr,zBd,hk]
theorem zPe(S:WS)(i:Nat)(R:List (List Ent)):S.learns i R 0=S:=by unfold WS.learns;rw[zBd,zNu]
def zHo(a:Nat):OT:= .next a (.next (a+1) (.fork (.next (a+2) (.fork (.next (a+3) (.next (a+4) (.next (a+5) .done))) (.next (a+4) (.next (a+3) (.next (a+5) .done))))) (.next (a+3) (.next (a+2) (.next (a+4) (.next (a+5) .done))))))
def treeD:OT:= .next 7 (.next 8 (.fork (.next 9 (.fork (.next 10 (.next 11 (.next 12 .done))) (.next 11 (.fork (.next 10 (.next 12 .done)) (.next 12 (.next 10 .done)))))) (.next 10 (.next 9 (.next 11 (.next 12 .done))))))
def DelR(hb b:Nat)(og:Nat)(to_:Int)(W:World):Prop:=W.cell? ⟨hb,7,none⟩=some (.pointer (some ⟨og,0,none⟩))/\W.cell? ⟨b,1,none⟩=some (.int .i64 to_)
section
variable {w:World}{c:Cfg}{y:Lay}{S:WS}{K base:Nat}{ow:Nat->Tag}
theorem zYu(h:PW w c y S K base ow)(N:Nat)(hS:S.ok c N)(hN:N<=10000)(hK:K<1000000)(id:Int)(hwf:(Lit.int .i64 id).wf=true)(hd:gD S id=0):Calls prog 64 #[.pointer (some ⟨y.hb,0,none⟩),.int .i64 id] w (fI w c y (K+1) base ow (fZ c S id)):=by
 obtain⟨k,p,hik,hp,hto0,hold,htp⟩:=due_zero hd;subst hik;obtain⟨⟨hcn,hn1,hn8⟩,_⟩:=bK h.may;obtain⟨hf,ht,hdt,hft⟩:=hS.lts p (qB hp);have HE:=uT (show fZ c S k=(⟨0,p.to_,Stk.none,0,[],p.data,[]⟩,zAt c (S.opened p k) p)by unfold fZ;rw[if_neg (by rw[hd];decide),qR,hp];dsimp only;rw[if_neg (by rw[hd];decide)])
 obtain⟨f,hpf⟩:∃f:Nat,p.fr=f:=⟨p.fr.toNat,by omega⟩;obtain⟨i,hpt⟩:∃i:Nat,p.to_=i:=⟨p.to_.toNat,by omega⟩;have HCN:=uT hcn;have hb8:f<=8/\i<=8:=by omega
 obtain⟨HFT,HPF,HPT,HDT⟩:=uK (show(f=c.n->i<c.n)/\f<=c.n/\i<=c.n by omega) hpf hpt hdt;have hwt:(Lit.int .i64 p.to_).wf=true:=WalkArith.wf_i64 (by omega);obtain⟨q,hq⟩:=kB w.heap.size;obtain⟨wx,hwx⟩:=kB (w.alloc (.cells (bR 0 0).cells.toArray 57));have hbx:=uH hwx;have kq:Blk wx q 57 (bR 0 0).cells.toArray:=by rw[hwx,hq];exact Blk.new _ _ _
 have hx:=h.calm hbx;have hlen:S.lts.length<=1000000:=by have:=hS.len;omega
 have HNO:=uT (λe W=>gA e W);unfold bR bY Tol.val Stk.none at HNO;dsimp only at HNO;obtain⟨HDU,HX,HKQ,HBX,HQ,HH,HWX,HNQ⟩:=uO (zOl hx k hwf hlen) hx kq hbx hq h hwx (show ow q= .no from h.fresh q (by omega));obtain⟨⟨v,ps,m,hof,_,hps,_,_⟩,_,_⟩:=h.pc .off;have hpl:ps.length=S.lts.length:=by rw[<-hps,qQ]
 have HTO:=uT (λW (hW:uR w W)=>zGr base y.og y.ob m v ps S.top W k (hof.calm hW) (by omega));rw[hps,htp]at HTO;have HOP:=uT (λW (hW:uR w W)=>zRq (h.calm hW) hlen hK k p hp hto0 hold hwt);rw[hd]at HDU;obtain⟨HS,HPK⟩:=uI hS hp;clear hx kq hbx hq h hwx hd hof hps hpl htp hS hp hpf hpt hdt hcn hf ht hft;go_enter func64,ntmps64;go_upto_region 1 with fail;rw[zAf,<-HWX.s,<-HQ.s];go_wp2_with fail;refine HDU.s.mono ?_;rintro _ w2 ⟨rfl,hb2⟩;obtain⟨HK2,HB2,HX2⟩:=uJ (HKQ.s.below hb2 HKQ.s.lt) (HBX.s.trans (hb2.mono HBX.s.size)) (HX.s.calm hb2);clear hb2;have c7:=(HX2.s.pc .con).blk.cell 7;go_upto_region 4 with fail;go_wp2_with fail;refine(HTO.s w2 HB2.s).mono ?_;rintro _ _ ⟨rfl,rfl⟩;go_upto_region 5 with fail;obtain⟨w3,hw3⟩:=kB (w2.alloc (.cells ((⟨⟨0,p.to_,⟨0,0,0,0,0⟩,0,[],[],[]⟩,none,0,0,none,0,0,none,0,0⟩:Tol)).cells.toArray 57));obtain⟨b3,hb3⟩:=kB w2.heap.size;have kb:Blk w3 b3 57 ((⟨⟨0,p.to_,⟨0,0,0,0,0⟩,0,[],[],[]⟩,none,0,0,none,0,0,none,0,0⟩:Tol)).cells.toArray:=by rw[hw3,hb3];exact Blk.new _ _ _
 have hbl:=uH hw3;rw[show(#[.int .i64 0,.int .i64 p.to_,.int .i64 0,.int .i64 0,.int .i64 0,.int .i64 0,.int .i64 0,.int .i64 0,.slice none 0 0,.slice none 0 0,.slice none 0 0]:Array Value)=((⟨⟨0,p.to_,⟨0,0,0,0,0⟩,0,[],[],[]⟩,none,0,0,none,0,0,none,0,0⟩:Tol)).cells.toArray from rfl,<-hw3,<-hb3];obtain⟨HK3,HB3,HX3,HKB,HLB,HBQ,HBN⟩:=uN (HK2.s.below hbl HK2.s.lt) (HB2.s.trans (hbl.mono HB2.s.size)) (HX2.s.calm hbl) kb (show w2.heap.size<=b3 by omega) (show q≠b3 from λe=>by have:=HK2.s.lt;omega) (show ow b3= .no from HX2.s.fresh b3 (by omega));clear hw3 hb3 kb hbl c7;go_upto_region 7 with fail
 go_cut [36] (λs36 W=>∃A n cc ow',uS (DelAt w c y (S.opened p k) (K+1) base ow q b3 p A n cc W ow'))
 case first=>
  have hR3:DelR y.hb b3 y.og p.to_ w3.drew:=⟨(HX3.s.pc .con).blk.cell 7,HKB.s.cell 1⟩;have t0:=λn:zAl (DelR y.hb b3 y.og p.to_)=>n.h.1
  have t1:=λn:zAl (DelR y.hb b3 y.og p.to_)=>n.h.2
  haveI hne:Nonempty (zAl (DelR y.hb b3 y.og p.to_)):=⟨⟨_,hR3⟩⟩;refine zCn (C:=λw'=>∃n:zAl (DelR y.hb b3 y.og p.to_),w'=n.W) [0,1,2,3,4,5,6] [7,8,9,10,11,12] treeD (by kernel_rfl) (by kernel_rfl) (by intro c a d v w h;cases d<;>exact h) ⟨⟨_,hR3⟩,rfl⟩ ?_;simp only[bB,qJ,qO,qD,qE]
  repeat(go_big_quiet_step (fail))
  refine qF ?_;have hd0:uR w3 w3.drew:=(qC _ w3).drew;have hXd:=HX3.s.calm hd0;have hQd:=HK3.s.below hd0 HK3.s.lt;have hKd:=HKB.s.below hd0 HKB.s.lt;have hBd:=HB3.s.trans (hd0.mono HB3.s.size);generalize w3.drew=wd at hd0 hXd hQd hKd hBd hR3⊢;clear t0 t1 hR3;unfold treeD;refine bP λK0 hK0=> ?_
  simp only[bB,qJ,qO,qD,qE];go_wp2_with fail;refine(HOP.s wd hBd).mono ?_;rintro _ w5 ⟨A,n,cc,ow5,rfl,hr5,hp5,hk5,hn5⟩;have hkk:Kept w w5 ow ow5:=(Kept.calm hBd).trans hk5;have hQ5:=hk5.blk hQd HNQ.s;have hK5:=hk5.blk hKd HBN.s;have hqn:ow5 q= .no:=(hk5.old q hQd.lt).trans HNQ.s;have hbn:ow5 b3= .no:=(hk5.old b3 hKd.lt).trans HBN.s;have hrl:∀k',(Value.slice A n cc).ownBlock=some k'->k'≠b3:=λk' hk' e=>by have:=(hr5.lt k' hk').1;have:=hKd.lt;omega
  have hR5:DelR y.hb b3 y.og p.to_ w5:=⟨(hp5.pc .con).blk.cell 7,hK5.cell 1⟩;go_wp2_with fail;refine hK0 _ w5 (λ_=>⟨⟨_,hR5⟩,rfl⟩) ?_;clear hK0 K0;have x9:w5.cell? ⟨b3,9,none⟩=some (.slice none 0 0):=hK5.cell 9;have y9:=hK5.frozen 9;have hbw:w.heap.size<=b3:=qN HB2.s.size HLB.s;have ho9:Only (λk=>k=b3) w5 (w5.setCell ⟨b3,9,none⟩ (.slice A n cc)):=bJ (Only.refl _ w5) 9 _;have hA:=uT (show DelAt w c y (S.opened p k) (K+1) base ow q b3 p A n cc (w5.setCell ⟨b3,9,none⟩ (.slice A n cc)) ow5 from
   ⟨hp5.own ho9 hbn (qN HH.s.bw hbw),⟨hkk.only.trans ho9 (λx hx e=>by omega),hkk.old⟩,hqn,hbn,hQ5.only ho9 (λe=>HBQ.s e),hK5.set_ 9 _,dU (bL hr5 ho9 λg hg e=>hrl g hg e) hBd.size,hn5,λk' hk' e=>by have:=(hr5.lt k' hk').1;have:=hQd.lt;omega⟩)
  have hR9:DelR y.hb b3 y.og p.to_ (w5.setCell ⟨b3,9,none⟩ (.slice A n cc)):=⟨(hA.s.pw.pc .con).blk.cell 7,hA.s.bk.cell 1⟩;clear hp5 hk5 hr5 hn5 hQ5 hK5 hkk hqn hbn hrl hXd hQd hKd hBd hd0 ho9 hbw;have HA:=hA;have hcut:∃A' n' cc' ow',uS (DelAt w c y (S.opened p k) (K+1) base ow q b3 p A' n' cc' (w5.setCell ⟨b3,9,none⟩ (.slice A n cc)) ow'):=⟨A,n,cc,ow5,hA⟩;have HCUT:=uT hcut;clear hA hcut
  repeat' (first
   |(refine zAx ?_ ?_)
   |(refine gV ?_;go_wp2_with(fail);go_meet;exact HCUT.s)
   |(refine bP λK0 hK0=> ?_;simp only[bB,qJ,qO,qD,qE];go_wp2_with(fail);refine hK0 _ w5 (λ_=>⟨⟨_,hR5⟩,rfl⟩) ?_;clear hK0 K0)
   |(refine bP λK0 hK0=> ?_;simp only[bB,qJ,qO,qD,qE];go_wp2_with(fail);refine hK0 _ (w5.setCell ⟨b3,9,none⟩ (.slice A n cc)) (λ_=>⟨⟨_,hR9⟩,rfl⟩) ?_;clear hK0 K0))
 case rest=>
  obtain⟨A,n,cc,owc,HD⟩:=hcut;have hcb:=(HD.s.pw.pc .con).blk;have c7:wc.cell? ⟨y.hb,7,none⟩=some (.pointer (some ⟨y.og,0,none⟩)):=hcb.cell 7;have c0:wc.cell? ⟨y.hb,0,none⟩=some (.int .i64 c.br):=hcb.cell 0;have b1:wc.cell? ⟨b3,1,none⟩=some (.int .i64 (i:Int)):=by rw[<-HPT.s];exact HD.s.bk.cell 1
  obtain⟨⟨vo,pso,mo,hofo,_,hpso,_,_⟩,_,_⟩:=HD.s.pw.pc .off;obtain⟨po,hpo,hpod⟩:∃po,pso[k]? =some po/\po.d=p:=by
   have h1:=HPK.s;rw[show S.lts=(S.opened p k).lts from rfl,<-hpso,qV]at h1;cases hx:pso[k]? with
   |none=>rw[hx]at h1;cases h1
   |some x=>rw[hx]at h1;exact⟨x,rfl,Option.some.inj h1⟩
  have HFR:=uT (zSn base y.og y.ob mo vo pso (S.opened p k).top wc k po hofo hpo);rw[hpod,HPF.s]at HFR;clear hcb hofo hpso hpo hpod;go_upto_region 8 with fail;go_wp2_with fail;refine HFR.s.mono ?_;rintro _ _ ⟨rfl,rfl⟩;by_cases hto:(i:Int)=c.br
  ·have a1:((i:Int)==c.br)=true:=by simpa using hto
   have HC:=uT (show zAt c (S.opened p k) p=(S.opened p k).wants f (dA c p.data).1 (dA c p.data).1.length by unfold zAt;rw[if_pos (by rw[HPT.s];exact hto),HPF.s,qR])
   go_upto_region 15 with fail;go_quiet (fail);have HD2:=uT (HD.s.calm (below_drewN (qC _ wc) nq));generalize wc.drewN nq=w2c at HD2⊢;clear c7 c0 b1;go_upto_region 16 with fail
   go_cut [8] (λs8 W=>uS (∃owd,DelAt w c y (S.opened p k) (K+1) base ow q b3 p A n cc W owd/\zQp (dA c p.data).1 W owd s8))
   case first=>
    have hD:=HD2.s;have hcb:=(hD.pw.pc .con).blk;have e0:=λm:Ext w2c=>m.cell (show w2c.cell? ⟨y.hb,0,none⟩=some (.int .i64 c.br)from hcb.cell 0)
    have e1:=λm:Ext w2c=>m.cell (show w2c.cell? ⟨y.hb,1,none⟩=some (.slice c.la.A c.la.n c.la.c)from hcb.cell 1)
    have e2:=λm:Ext w2c=>m.cell (show w2c.cell? ⟨y.hb,2,none⟩=some (.int .i64 c.tk)from hcb.cell 2)
    have e3:=λm:Ext w2c=>m.cell (show w2c.cell? ⟨y.hb,3,none⟩=some (.slice c.mi.A c.mi.n c.mi.c)from hcb.cell 3)
    have e4:=λm:Ext w2c=>m.cell (show w2c.cell? ⟨y.hb,4,none⟩=some (.int .i64 c.cap)from hcb.cell 4)
    have e9:=λm:Ext w2c=>m.cell (show w2c.cell? ⟨b3,9,none⟩=some (.slice A n cc)from hD.bk.cell 9)
    have hcaps:=fH hD.row;have hdl:p.data.length=n:=by have:=(Reads.of_own hD.row).1;simpa using this
    have HAK:=uT (λW (hW:uR w2c W)=>zVq c A n cc p.data W.heap.size W ((hD.calm hW).pw.cfg.more (hD.calm hW).pw.bw) hdl hcaps.2.1 hcaps.2.2 (Reads.of_own (hD.calm hW).row) HDT.s (qA _));clear hD hcb hcaps hdl;unfold Cfg.val zAj at HAK;refine fW [0,1,2,3,4,5] [6,7,8,9,10,11] (zHo 6) (by kernel_rfl) (by kernel_rfl) (by intro c a d v w h;cases d<;>exact h) ?_;simp only[bB,qJ,qO,qD,qE]
    repeat(go_big_quiet_step (fail))
    refine qF ?_;clear e0 e1 e2 e3 e4 e9;have hd0:uR w2c w2c.drew:=(qC _ w2c).drew;generalize w2c.drew=wd at hd0⊢;unfold zHo;refine bP λK0 hK0=> ?_
    simp only[bB,qJ,qO,qD,qE];go_wp2_with fail;refine(HAK.s wd hd0).mono ?_;rintro _ w5 ⟨v5,rfl,ho5,hb5⟩;have hd5:=hd0.trans (hb5.mono hd0.size);have hD5:=HD2.s.calm hd5;obtain⟨A5,c5,rfl,_⟩:=bE ho5;have HCUT:=uT (show uS (∃owd,DelAt w c y (S.opened p k) (K+1) base ow q b3 p A n cc w5 owd/\zQp (dA c p.data).1 w5 owd (.slice A5 (dA c p.data).1.length c5))from uT ⟨_,hD5,A5,_,c5,_,rfl,rfl,ho5,λk' hk'=>(HD2.s.calm hd0).pw.fresh k' (ho5.lt k' hk').1⟩);generalize(dA c p.data).2=cd at HAK⊢;generalize(dA c p.data).1.length=n5 at HCUT⊢;clear ho5 hb5 hD5 hd0;go_wp2_with fail;refine hK0 _ w5 (λ_=>⟨⟨_,hd5⟩,rfl⟩) ?_;clear hK0 K0
    repeat' (first
     |(refine zAx ?_ ?_)
     |(refine gV ?_;go_wp2_with(fail);go_meet;exact HCUT.s)
     |(refine bP λK0 hK0=> ?_;simp only[bB,qJ,qO,qD,qE];go_wp2_with(fail);refine hK0 _ w5 (λ_=>⟨⟨_,hd5⟩,rfl⟩) ?_;clear hK0 K0))
   case rest=>
    obtain⟨owd,hD0,A5,n5,c5,b5,rfl,hl5,hr5,hn5⟩:=hcut.s;obtain⟨hv5,hlen5⟩:=zFd c p.data;have hm3:=(bK HH.s.may).2.2.2.1;obtain⟨HV5,HL5,HN5,HS0,HFN,HBW⟩:=uM hv5 hl5 (show n5<=c.m by omega) (show(∃owr,DelAt w c y ((S.opened p k).wants f (dA c p.data).1 0) (K+1) base ow q b3 p A n cc wc owr/\wc.ownsRow b5 3 1 (.slice A5 n5 c5) n5 ((dA c p.data).1.map (.int .i64))/\∀g,(Value.slice A5 n5 c5).ownBlock=some g->owr g= .no)from⟨owd,by rw[zQm];exact hD0,hr5,hn5⟩) (show f<c.n by have h1:=HFT.s;have h2:=HCN.s;omega) (λj=>(HS.s.bk j).lw);rw[hl5]at HC;generalize(dA c p.data).1=L at HV5 HL5 HS0 HC;clear hD0 hl5 hr5 hn5 hv5 hlen5 hto;have hn5i:=HN5.s;go_wp2_with fail
    go_loopw [110] (λj W=>∃m5:Nat,m5<=n5/\j= .int .i64 m5/\uS (∃owr,DelAt w c y ((S.opened p k).wants f L m5) (K+1) base ow q b3 p A n cc W owr/\W.ownsRow b5 3 1 (.slice A5 n5 c5) n5 (L.map (.int .i64))/\∀g,(Value.slice A5 n5 c5).ownBlock=some g->owr g= .no)) (λj _=>n5-(intOf j).toNat)
    case atStart=>exact⟨0,qL _,rfl,HS0⟩
    case round=>
     obtain⟨m5,hm5,rfl,HR⟩:=hrel;by_cases hlt:m5<n5
     ·obtain⟨owr,hDr,hrr,hnr⟩:=HR.s;have hlt':(m5:Int)<(n5:Int):=by omega
      obtain⟨bl,ol,z,hA5,_,hz,hcz⟩:=dQ (Reads.of_own hrr) hlt;subst hA5;have hcon:=hDr.pw.pc .con;obtain⟨ks,hks,hkc⟩:=hcon.bks;have x6:wr.cell? ⟨y.hb,6,none⟩=some (.slice (some ⟨y.kb,0,none⟩) c.m y.kc):=hcon.blk.cell 6;have x7:wr.cell? ⟨y.kb,m5,none⟩=some (.pointer (some ⟨y.bg m5,0,none⟩)):=(hks.cell m5).trans (hkc m5 (by omega));have hmm:(m5:Int)<(c.m:Int):=by omega
      have hlw:(((S.opened p k).wants f L m5).bk m5).wants.length=c.n:=by rw[show((S.opened p k).wants f L m5).bk m5=S.bk m5 from if_neg (Nat.lt_irrefl m5)];exact HBW.s m5
      obtain⟨HWA,HGZ,HDR,HRR,HNR⟩:=uL (zVw hDr.pw m5 f z (by omega) HFN.s hlw) (show L.getD m5 0=z by rw[qG,hz];rfl) hDr hrr hnr;clear hDr hrr hnr hz hcon hks hkc hlw;go_upto_region 20 with fail;go_wp2_with fail;refine HWA.s.mono ?_;rintro _ w7 ⟨rfl,ow7,hp7,hk7⟩;have HNX:=uT (show(∃owr,DelAt w c y ((S.opened p k).wants f L (m5+1)) (K+1) base ow q b3 p A n cc w7 owr/\w7.ownsRow b5 3 1 (.slice (some ⟨bl,ol,none⟩) n5 c5) n5 (L.map (.int .i64))/\∀g,(Value.slice (some ⟨bl,ol,none⟩) n5 c5).ownBlock=some g->owr g= .no)from
       ⟨ow7,HDR.s.turn (by rw[zLm,HGZ.s];exact hp7) hk7,hk7.own HRR.s HNR.s,λg hg=>(hk7.old g (HRR.s.lt g hg).2).trans (HNR.s g hg)⟩)
      clear hp7 hk7 x6 x7 hcz;go_wp2_with fail;refine⟨⟨m5+1,by omega,by go_num,HNX⟩,by simp[intOf];omega⟩
     ·obtain rfl:m5=n5:=by omega
      obtain⟨owr,hDr,_,_⟩:=HR.s;have HDR:=uT hDr;obtain⟨z0,z1,z2,z3,z4,z5,z6,z7,z8,z9,z10⟩:=dM HDR.s.bk;unfold tolF at z0 z1 z2 z3 z4 z5 z6 z7 z8 z9 z10;dsimp only at z0 z1 z2 z3 z4 z5 z6 z7 z8 z9 z10;have HKQ9:=uT hDr.qk;clear hDr;obtain⟨_,_,_,_,_,_,_,_,_,_,_⟩:=bW HKQ9.s;obtain⟨_,_,_,_,_,_,_,_,_,_,_⟩:=bS HKQ9.s;go_wp2_with fail;refine dC (w:=wr) (t:=(tolF p A n cc)) HKQ9.s rfl λw9 HO9=> ?_
      replace HO9:=uT HO9;refine(HDR.s.fin HO9.s HQ.s HH.s.bw (HE.s.trans (by rw[HC.s])))
  ·have a1:((i:Int)==c.br)=false:=by simpa using hto
   go_upto_region 15 with fail;go_quiet (fail);have HD1:=uT (HD.s.calm (below_drewN (qC _ wc) nq));generalize wc.drewN nq=w1c at HD1⊢;clear c7 c0 b1;have c0:w1c.cell? ⟨y.hb,0,none⟩=some (.int .i64 c.br):=(HD1.s.pw.pc .con).blk.cell 0;go_upto_region 22 with fail;by_cases hfr:(f:Int)=c.br
   ·have a2:((f:Int)==c.br)=true:=by simpa using hfr
    have HC:=uT (show zAt c (S.opened p k) p=dH i (dA c p.data).1 (dA c p.data).1.length (S.opened p k)by unfold zAt;rw[if_neg (by rw[HPT.s];exact hto),if_pos (by rw[HPF.s];exact hfr),HPT.s,qR])
    clear hfr;go_upto_region 23 with fail;have HD2:=HD1;obtain⟨w2c,hw2c⟩:=kB w1c;subst hw2c;clear c0
    go_cut [12] (λs12 W=>uS (∃owd,DelAt w c y (S.opened p k) (K+1) base ow q b3 p A n cc W owd/\zQp (dA c p.data).1 W owd s12))
    case first=>
     have hD:=HD2.s;have hcb:=(hD.pw.pc .con).blk;have e0:=λm:Ext w2c=>m.cell (show w2c.cell? ⟨y.hb,0,none⟩=some (.int .i64 c.br)from hcb.cell 0)
     have e1:=λm:Ext w2c=>m.cell (show w2c.cell? ⟨y.hb,1,none⟩=some (.slice c.la.A c.la.n c.la.c)from hcb.cell 1)
     have e2:=λm:Ext w2c=>m.cell (show w2c.cell? ⟨y.hb,2,none⟩=some (.int .i64 c.tk)from hcb.cell 2)
     have e3:=λm:Ext w2c=>m.cell (show w2c.cell? ⟨y.hb,3,none⟩=some (.slice c.mi.A c.mi.n c.mi.c)from hcb.cell 3)
     have e4:=λm:Ext w2c=>m.cell (show w2c.cell? ⟨y.hb,4,none⟩=some (.int .i64 c.cap)from hcb.cell 4)
     have e9:=λm:Ext w2c=>m.cell (show w2c.cell? ⟨b3,9,none⟩=some (.slice A n cc)from hD.bk.cell 9)
     have hcaps:=fH hD.row;have hdl:p.data.length=n:=by have:=(Reads.of_own hD.row).1;simpa using this
     have HAK:=uT (λW (hW:uR w2c W)=>zVq c A n cc p.data W.heap.size W ((hD.calm hW).pw.cfg.more (hD.calm hW).pw.bw) hdl hcaps.2.1 hcaps.2.2 (Reads.of_own (hD.calm hW).row) HDT.s (qA _));clear hD hcb hcaps hdl;unfold Cfg.val zAj at HAK;refine fW [0,1,2,3,4,5] [6,7,8,9,10,11] (zHo 6) (by kernel_rfl) (by kernel_rfl) (by intro c a d v w h;cases d<;>exact h) ?_;simp only[bB,qJ,qO,qD,qE]
     repeat(go_big_quiet_step (fail))
     refine qF ?_;clear e0 e1 e2 e3 e4 e9;have hd0:uR w2c w2c.drew:=(qC _ w2c).drew;generalize w2c.drew=wd at hd0⊢;unfold zHo;refine bP λK0 hK0=> ?_
     simp only[bB,qJ,qO,qD,qE];go_wp2_with fail;refine(HAK.s wd hd0).mono ?_;rintro _ w5 ⟨v5,rfl,ho5,hb5⟩;have hd5:=hd0.trans (hb5.mono hd0.size);have hD5:=HD2.s.calm hd5;obtain⟨A5,c5,rfl,_⟩:=bE ho5;have HCUT:=uT (show uS (∃owd,DelAt w c y (S.opened p k) (K+1) base ow q b3 p A n cc w5 owd/\zQp (dA c p.data).1 w5 owd (.slice A5 (dA c p.data).1.length c5))from uT ⟨_,hD5,A5,_,c5,_,rfl,rfl,ho5,λk' hk'=>(HD2.s.calm hd0).pw.fresh k' (ho5.lt k' hk').1⟩);generalize(dA c p.data).2=cd at HAK⊢;generalize(dA c p.data).1.length=n5 at HCUT⊢;clear ho5 hb5 hD5 hd0;go_wp2_with fail;refine hK0 _ w5 (λ_=>⟨⟨_,hd5⟩,rfl⟩) ?_;clear hK0 K0
     repeat' (first
      |(refine zAx ?_ ?_)
      |(refine gV ?_;go_wp2_with(fail);go_meet;exact HCUT.s)
      |(refine bP λK0 hK0=> ?_;simp only[bB,qJ,qO,qD,qE];go_wp2_with(fail);refine hK0 _ w5 (λ_=>⟨⟨_,hd5⟩,rfl⟩) ?_;clear hK0 K0))
    case rest=>
     obtain⟨owd,hD0,A5,n5,c5,b5,rfl,hl5,hr5,hn5⟩:=hcut.s;obtain⟨hv5,hlen5⟩:=zFd c p.data;have hm3:=(bK HH.s.may).2.2.2.1;have hin:i<c.n:=by have h1:=HFT.s;have h2:=HCN.s;omega
     have HGA:=uT (λW (hW:uR wc W)=>yHs (hD0.calm hW).pw N (zNj HS.s p k) (by omega) i hin A5 n5 c5 b5 (dA c p.data).1 hl5 hv5 (by omega) (bI hr5 hW) hn5);rw[hl5]at HC;have hcb:=hD0.pw.pc .con;obtain⟨bs,hbs,hbp⟩:=hcb.row;have e5:=λm:Ext wc=>m.cell (show wc.cell? ⟨y.hb,5,none⟩=some (.slice (some ⟨y.bb,0,none⟩) c.n y.bc)from hcb.blk.cell 5)
     have e6:=λm:Ext wc=>m.cell (show wc.cell? ⟨b3,1,none⟩=some (.int .i64 (i:Int))by rw[<-HPT.s];exact hD0.bk.cell 1)
     have e7:=λm:Ext wc=>m.cell (show wc.cell? ⟨y.bb,i,none⟩=some (.pointer (some ⟨(y.br i).b,0,none⟩))from(hbs.cell i).trans (hbp i hin))
     have hini:(i:Int)<(c.n:Int):=by omega
     have HD5:=uT hD0;clear hl5 hr5 hn5 hv5 hlen5 hto hD0 hcb hbs hbp;go_upto_region 24 with fail;refine gF 9 (by kernel_rfl) (by kernel_rfl) ?_;simp only[qX,jE,qZ,jL]
     repeat(go_big_quiet_step (fail))
     refine qF ?_;rintro _ ⟨nq,rfl⟩;clear e5 e6 e7;go_wp2_with fail;refine(HGA.s nq.W nq.h).mono ?_;rintro _ wr ⟨rfl,ow7,hp7,hk7⟩;have HDR:=uT ((HD5.s.calm nq.h).turn hp7 hk7);obtain⟨z0,z1,z2,z3,z4,z5,z6,z7,z8,z9,z10⟩:=dM HDR.s.bk;unfold tolF at z0 z1 z2 z3 z4 z5 z6 z7 z8 z9 z10;dsimp only at z0 z1 z2 z3 z4 z5 z6 z7 z8 z9 z10;have HKQ9:=uT HDR.s.qk;clear hp7 hk7;obtain⟨_,_,_,_,_,_,_,_,_,_,_⟩:=bW HKQ9.s;obtain⟨_,_,_,_,_,_,_,_,_,_,_⟩:=bS HKQ9.s;go_wp2_with fail;refine dC (w:=wr) (t:=(tolF p A n cc)) HKQ9.s rfl λw9 HO9=> ?_
     replace HO9:=uT HO9;refine(HDR.s.fin HO9.s HQ.s HH.s.bw (HE.s.trans (by rw[HC.s])))
   ·have a2:((f:Int)==c.br)=false:=by simpa using hfr
    have HC:=uT (show zAt c (S.opened p k) p=(S.opened p k).learns i (dI c f i p.data).1 (dI c f i p.data).1.length by unfold zAt;rw[if_neg (by rw[HPT.s];exact hto),if_neg (by rw[HPF.s];exact hfr),HPT.s,HPF.s,qR])
    have hin:i<c.n:=by
     have h1:=HFT.s;have h2:=HCN.s;rcases Nat.lt_or_ge i c.n with h|h
     ·exact h
     ·exact absurd (show(i:Int)=c.br by omega) hto
    have HHR:=uT (yEv c f i p.data);clear hfr hto;go_upto_region 9 with fail;have HD2:=HD1;obtain⟨w2c,hw2c⟩:=kB w1c;subst hw2c;clear c0
    go_cut [14] (λs14 W=>uS (∃owd,DelAt w c y (S.opened p k) (K+1) base ow q b3 p A n cc W owd/\TabCut (dI c f i p.data).1 W owd s14))
    case first=>
     have hD:=HD2.s;have hcb:=(hD.pw.pc .con).blk;have e0:=λm:Ext w2c=>m.cell (show w2c.cell? ⟨y.hb,0,none⟩=some (.int .i64 c.br)from hcb.cell 0)
     have e1:=λm:Ext w2c=>m.cell (show w2c.cell? ⟨y.hb,1,none⟩=some (.slice c.la.A c.la.n c.la.c)from hcb.cell 1)
     have e2:=λm:Ext w2c=>m.cell (show w2c.cell? ⟨y.hb,2,none⟩=some (.int .i64 c.tk)from hcb.cell 2)
     have e3:=λm:Ext w2c=>m.cell (show w2c.cell? ⟨y.hb,3,none⟩=some (.slice c.mi.A c.mi.n c.mi.c)from hcb.cell 3)
     have e4:=λm:Ext w2c=>m.cell (show w2c.cell? ⟨y.hb,4,none⟩=some (.int .i64 c.cap)from hcb.cell 4)
     have e8:=λm:Ext w2c=>m.cell (show w2c.cell? ⟨b3,1,none⟩=some (.int .i64 (i:Int))by rw[<-HPT.s];exact hD.bk.cell 1)
     have e9:=λm:Ext w2c=>m.cell (show w2c.cell? ⟨b3,9,none⟩=some (.slice A n cc)from hD.bk.cell 9)
     have hcaps:=fH hD.row;have hdl:p.data.length=n:=by have:=(Reads.of_own hD.row).1;simpa using this
     have HAK:=uT (λW (hW:uR w2c W)=>yHx c f i A n cc p.data W.heap.size W ((hD.calm hW).pw.cfg.more (hD.calm hW).pw.bw) (qA _) hdl hcaps.2.1 hcaps.2.2 (Reads.of_own (hD.calm hW).row) HDT.s);clear hD hcb hcaps hdl;unfold Cfg.val zDg at HAK;refine fW [0,1,2,3,4,5,6,7,8] [9,10,11,12,13,14] (zHo 9) (by kernel_rfl) (by kernel_rfl) (by intro c a d v w h;cases d<;>exact h) ?_;simp only[bB,qJ,qO,qD,qE]
     repeat(go_big_quiet_step (fail))
     refine qF ?_;clear e0 e1 e2 e3 e4 e8 e9;have hd0:uR w2c w2c.drew:=(qC _ w2c).drew;generalize w2c.drew=wd at hd0⊢;unfold zHo;refine bP λK0 hK0=> ?_
     simp only[bB,qJ,qO,qD,qE];go_wp2_with fail;refine(HAK.s wd hd0).mono ?_;rintro _ w5 ⟨t5,rfl,hte5,htr5,hb5,htm5⟩;have hd5:=hd0.trans (hb5.mono hd0.size);have hD5:=HD2.s.calm hd5;have HCUT:=uT (show uS (∃owd,DelAt w c y (S.opened p k) (K+1) base ow q b3 p A n cc w5 owd/\TabCut (dI c f i p.data).1 w5 owd t5.val)from uT ⟨_,hD5,t5,rfl,hte5,_,htm5,λg hg hne=>by
      rcases htm5.1 with h|⟨g',g1,g2,g3⟩
      ·exact absurd h hne
      ·rw[hg]at g2;cases g2;exact(HD2.s.calm hd0).pw.fresh _ g1,λr hr k' hk'=>(HD2.s.calm hd0).pw.fresh k' ((htm5.2 r hr).lt k' hk').1⟩)
     generalize(dI c f i p.data).2=cd at HAK⊢;unfold TabR.val at HCUT⊢;generalize t5.rs.length=n5 at HCUT⊢;generalize t5.A=A5 at HCUT⊢;generalize t5.c=c5 at HCUT⊢;clear hb5 hD5 hd0 htm5 htr5 hte5;go_wp2_with fail;refine hK0 _ w5 (λ_=>⟨⟨_,hd5⟩,rfl⟩) ?_;clear hK0 K0
     repeat' (first
      |(refine zAx ?_ ?_)
      |(refine gV ?_;go_wp2_with(fail);go_meet;exact HCUT.s)
      |(refine bP λK0 hK0=> ?_;simp only[bB,qJ,qO,qD,qE];go_wp2_with(fail);refine hK0 _ w5 (λ_=>⟨⟨_,hd5⟩,rfl⟩) ?_;clear hK0 K0))
    case rest=>
     obtain⟨owd,hD0,t5,rfl,hte,hta⟩:=hcut.s;have HRW:=uT (show∀l∈t5.es,l.length<=8 from by rw[hte];exact yAz c f i p.data);have hHR:=HHR.s;rw[<-hte]at hHR HC;have htl:t5.es.length=t5.rs.length:=by unfold TabR.es;rw[qQ]
     rw[htl]at hHR HC;have hln4:=(bK HH.s.may).2.1;have hST:=λa=>HS.s.st a
     obtain⟨HST,HRG,HS0⟩:=uJ hST (show∀(m:Nat) (r:EnR),t5.rs[m]? =some r->t5.es.getD m []=r.es from λm r hr=>by unfold TabR.es;rw[qG,qV,hr];rfl) (show(∃owr,DelAt w c y ((S.opened p k).learns i t5.es 0) (K+1) base ow q b3 p A n cc wc owr/\TabAt t5 wc owr)from⟨owd,by rw[zPe];exact hD0,hta⟩);have hn5i:t5.rs.length<=c.ln:=by omega
     obtain⟨n5,hn5⟩:=kB t5.rs.length;unfold TabR.val;rw[<-hn5]at HC hn5i⊢;have HN5:=uT hn5;clear hD0 hte hta hHR htl hST hn5;go_wp2_with fail
     go_loopw [69] (λj W=>∃m5:Nat,m5<=n5/\j= .int .i64 m5/\uS (∃owr,DelAt w c y ((S.opened p k).learns i t5.es m5) (K+1) base ow q b3 p A n cc W owr/\TabAt t5 W owr)) (λj _=>n5-(intOf j).toNat)
     case atStart=>exact⟨0,qL _,rfl,HS0⟩
     case round=>
      obtain⟨m5,hm5,rfl,HR⟩:=hrel;by_cases hlt:m5<n5
      ·obtain⟨owr,hDr,hTC⟩:=HR.s;have HTC:=uT hTC;obtain⟨B,htm,_,_⟩:=hTC;have hlt':(m5:Int)<(n5:Int):=by omega
       have hm5r:m5<t5.rs.length:=by rw[<-HN5.s];exact hlt
       obtain⟨r,hr⟩:∃r,t5.rs[m5]? =some r:=⟨_,qI hm5r⟩;obtain⟨g5,hg5,hA5,hblk⟩:∃g,B<=g/\t5.A=some ⟨g,0,none⟩/\Blk wr g 103 (t5.rs.map EnR.val).toArray:=by
        rcases htm.1 with h|h
        ·rw[h]at hr;cases hr
        ·exact h
       have x0:wr.cell? ⟨g5,m5,none⟩=some r.val:=(hblk.cell m5).trans (by rw[jH,qV,hr];rfl);have hrow:=htm.2 r (qB hr);have hcaps:=fH hrow;have hml:m5<c.ln:=by omega
       have hstl:(((S.opened p k).learns i t5.es m5).st i).length=c.ln:=by show List.length (bN _ _ _ _)=_;rw[dD];exact(zLq t5.es m5 ((S.opened p k).st i) (HST.s i).2).1.trans (HST.s i).1
       have hr8:r.es.length<=1000000:=by have:=HRW.s r.es (jC.2 ⟨r,qB hr,rfl⟩);omega
       have HLE:=uT (λW (hW:uR wr W)=>zSm (hDr.pw.calm hW) i m5 hin hml hstl r.A r.es.length r.c r.es W.heap.size rfl hr8 (Reads.of_own (bI hrow hW)) (qA _));have hcb:=hDr.pw.pc .con;obtain⟨bs,hbs,hbp⟩:=hcb.row;have e5:=λm:Ext wr=>m.cell (show wr.cell? ⟨y.hb,5,none⟩=some (.slice (some ⟨y.bb,0,none⟩) c.n y.bc)from hcb.blk.cell 5)
       have e6:=λm:Ext wr=>m.cell (show wr.cell? ⟨b3,1,none⟩=some (.int .i64 (i:Int))by rw[<-HPT.s];exact hDr.bk.cell 1)
       have e7:=λm:Ext wr=>m.cell (show wr.cell? ⟨y.bb,i,none⟩=some (.pointer (some ⟨(y.br i).b,0,none⟩))from(hbs.cell i).trans (hbp i hin))
       have e8:=λm:Ext wr=>m.cell (show wr.cell? ⟨(y.br i).b,3,none⟩=some (.slice (some ⟨(y.br i).t,0,none⟩) c.ln c.ln)from(hcb.brs i hin).cell 3)
       have hini:(i:Int)<(c.n:Int):=by omega
       obtain⟨HGZ,HDR⟩:=uI (zPn (S.opened p k) i t5.es m5 r.es (HRG.s m5 r hr)) hDr;unfold EnR.val at x0;clear hDr htm hr hblk hrow hcaps hstl hcb hbs hbp hm5r;rw[hA5];go_upto_region 13 with fail;refine gF 13 (by kernel_rfl) (by kernel_rfl) ?_;simp only[qX,jE,qZ,jL]
       repeat(go_big_quiet_step (fail))
       refine qF ?_;rintro _ ⟨nq,rfl⟩;clear e5 e6 e7 e8 x0;go_wp2_with fail;refine(HLE.s nq.W nq.h).mono ?_;rintro _ w7 ⟨rfl,ow7,hp7,hk7⟩;have hkk:=(Kept.calm (ow:=owr) nq.h).trans hk7;have HNX:=uT (show(∃owr,DelAt w c y ((S.opened p k).learns i t5.es (m5+1)) (K+1) base ow q b3 p A n cc w7 owr/\TabAt t5 w7 owr)from⟨ow7,HDR.s.turn (by rw[HGZ.s];exact hp7) hkk,HTC.s.turn hkk⟩);clear hp7 hk7 hkk;go_wp2_with fail;refine⟨⟨m5+1,by omega,by go_num,HNX⟩,by simp[intOf];omega⟩
      ·obtain rfl:m5=n5:=by omega
       obtain⟨owr,hDr,_⟩:=HR.s;have HDR:=uT hDr;obtain⟨z0,z1,z2,z3,z4,z5,z6,z7,z8,z9,z10⟩:=dM HDR.s.bk;unfold tolF at z0 z1 z2 z3 z4 z5 z6 z7 z8 z9 z10;dsimp only at z0 z1 z2 z3 z4 z5 z6 z7 z8 z9 z10;have HKQ9:=uT hDr.qk;clear hDr;obtain⟨_,_,_,_,_,_,_,_,_,_,_⟩:=bW HKQ9.s;obtain⟨_,_,_,_,_,_,_,_,_,_,_⟩:=bS HKQ9.s;go_wp2_with fail;refine dC (w:=wr) (t:=(tolF p A n cc)) HKQ9.s rfl λw9 HO9=> ?_
       replace HO9:=uT HO9;refine(HDR.s.fin HO9.s HQ.s HH.s.bw (HE.s.trans (by rw[HC.s])))
theorem yBw(h:PW w c y S K base ow)(N:Nat)(hS:S.ok c N)(hN:N<=10000)(hK:K<1000000)(id:Int)(hwf:(Lit.int .i64 id).wf=true):Calls prog 64 #[.pointer (some ⟨y.hb,0,none⟩),.int .i64 id] w (fI w c y (K+1) base ow (fZ c S id)):=by
 by_cases h6:gD S id=6
 ·exact zYr h N hS hN hK id hwf h6
 by_cases h0:gD S id=0
 ·exact zYu h N hS hN hK id hwf h0
 ·exact yAb h N hS hN hK id hwf h6 h0
end
section
variable {w W:World}{c:Cfg}{y:Lay}{S S':WS}{K base tb wb:Nat}{ow ow1:Nat->Tag}{t:Tol}{wt:TypeId}
theorem TkG.w0(h:TkG (PWr c y K base) base w S ow tb wb wt y.hb t W ow1):W.cell? ⟨wb,0,none⟩=some (.pointer (some ⟨y.hb,0,none⟩)):=h.wk.cell 0
theorem TkG.h5(h:TkG (PWr c y K base) base w S ow tb wb wt y.hb t W ow1):W.cell? ⟨y.hb,5,none⟩=some (.slice (some ⟨y.bb,0,none⟩) c.n y.bc):=(h.pw.pc .con).blk.cell 5
theorem TkG.h6(h:TkG (PWr c y K base) base w S ow tb wb wt y.hb t W ow1):W.cell? ⟨y.hb,6,none⟩=some (.slice (some ⟨y.kb,0,none⟩) c.m y.kc):=(h.pw.pc .con).blk.cell 6
theorem TkG.h0(h:TkG (PWr c y K base) base w S ow tb wb wt y.hb t W ow1):W.cell? ⟨y.hb,0,none⟩=some (.int .i64 c.br):=(h.pw.pc .con).blk.cell 0
theorem TkG.br(h:TkG (PWr c y K base) base w S ow tb wb wt y.hb t W ow1){i:Nat}(hi:i<c.n):W.cell? ⟨y.bb,i,none⟩=some (.pointer (some ⟨(y.br i).b,0,none⟩)):=by obtain⟨cs,h1,h2⟩:=(h.pw.pc .con).row;exact(h1.cell i).trans (h2 i hi)
theorem TkG.bk(h:TkG (PWr c y K base) base w S ow tb wb wt y.hb t W ow1){j:Nat}(hj:j<c.m):W.cell? ⟨y.kb,j,none⟩=some (.pointer (some ⟨y.bg j,0,none⟩)):=by obtain⟨cs,h1,h2⟩:=(h.pw.pc .con).bks;exact(h1.cell j).trans (h2 j hj)
theorem TkG.s0(h:TkG (PWr c y K base) base w S ow tb wb wt y.hb t W ow1){i:Nat}(hi:i<c.n):W.cell? ⟨(y.br i).b,0,none⟩=some (.slice (some ⟨(y.br i).s,0,none⟩) c.m c.m):=((h.pw.pc .con).brs i hi).cell 0
theorem TkG.s1(h:TkG (PWr c y K base) base w S ow tb wb wt y.hb t W ow1){i:Nat}(hi:i<c.n):W.cell? ⟨(y.br i).b,1,none⟩=some (.slice (some ⟨(y.br i).a,0,none⟩) c.m c.m):=((h.pw.pc .con).brs i hi).cell 1
theorem TkG.s3(h:TkG (PWr c y K base) base w S ow tb wb wt y.hb t W ow1){i:Nat}(hi:i<c.n):W.cell? ⟨(y.br i).b,3,none⟩=some (.slice (some ⟨(y.br i).t,0,none⟩) c.ln c.ln):=((h.pw.pc .con).brs i hi).cell 3
end
structure TickG(R:WS->World->(Nat->Tag)->Prop)(base:Nat)(w:World)(S:WS)(ow:Nat->Tag)(tb wb:Nat)(wt:TypeId)(hq:Nat)(l:List PoD)(rep:List Int)(t:Tol)(W:World)(ow1:Nat->Tag):Prop where
 tk:TkG R base w (S.posts l) ow tb wb wt hq t W ow1
 d:t.d=⟨0,0,Stk.none,0,zGw S.lts.length l,[],rep⟩
section
variable {w W W':World}{R:WS->World->(Nat->Tag)->Prop}{wt:TypeId}{hq:Nat}{S S':WS}{base tb wb:Nat}{ow ow1:Nat->Tag}{t:Tol}{l:List PoD}{rep:List Int}
theorem TickG.sn(h:TickG R base w S ow tb wb wt hq l rep t W ow1):t.sn=l.length:=by have h1:=h.tk.own.ok.sl;rw[h.d]at h1;dsimp only at h1;rw[zPx]at h1;exact h1.symm
theorem TickG.calm(h:TickG R base w S ow tb wb wt hq l rep t W ow1)(hb:uR W W'):TickG R base w S ow tb wb wt hq l rep t W' ow1:=⟨h.tk.calm hb,h.d⟩
theorem TickG.send{p:PoD}{e:Ending}(h:TickG R base w S ow tb wb wt hq l rep t W ow1)(hp:zQy R base w (S.posts l) ow tb wb wt hq t p W ow1 e W'):e= .returned (.tuple #[])/\∃(t2:Tol) (ow2:Nat->Tag),TickG R base w S ow tb wb wt hq (l++[p]) rep t2 W' ow2/\(t2.rA=t.rA/\t2.rn=t.rn/\t2.rc=t.rc)/\Only (λk=>ow1 k≠ .no\/k=tb\/(Value.slice t.sA t.sn t.sc).ownBlock=some k) W W'/\∀k,k<W.heap.size->ow2 k=ow1 k:=by
 obtain⟨rfl,t2,ow2,h1,h2,_,h4,h5,h6⟩:=hp;refine⟨rfl,t2,ow2,⟨?_,?_⟩,h4,h5,h6⟩
 ·rw[yBj]at h1;exact h1
 ·rw[h2,h.d,yFi];unfold zLe;dsimp only;unfold WS.posts;dsimp only;rw[qM]
end
abbrev zLg(w:World)(c:Cfg)(y:Lay)(S:WS)(K base:Nat)(ow:Nat->Tag)(tb wb:Nat)(l:List PoD)(rep:List Int)(t:Tol)(W:World)(ow1:Nat->Tag):Prop:=TickG (PWr c y K base) base w S ow tb wb 60 y.hb l rep t W ow1
section
variable {w W:World}{c:Cfg}{y:Lay}{S:WS}{K base tb wb:Nat}{ow ow1:Nat->Tag}{t:Tol}{wt:TypeId}
theorem TkG.asks(h:TkG (PWr c y K base) base w S ow tb wb wt y.hb t W ow1){i:Nat}(hi:i<c.n)(hl:(S.ask i).length=c.m):IRw.ok ⟨some ⟨(y.br i).a,0,none⟩,c.m,c.m,S.ask i⟩ W W.heap.size:=by have hm3:=(bK h.pw.may).2.2.2.1;have:=h.pw.pc (.ask i) hi;exact⟨hl,qA _,by unfold maxLen;dsimp only;omega,IRow.reads this.row hl⟩
theorem TkG.tab(h:TkG (PWr c y K base) base w S ow tb wb wt y.hb t W ow1){i:Nat}(hi:i<c.n)(hl:(S.st i).length=c.ln):∃T:TabR,T.val= .slice (some ⟨(y.br i).t,0,none⟩) c.ln c.ln/\TabOk W W.heap.size T/\T.es=S.st i:=by
 have hln:=(bK h.pw.may).2.1;obtain⟨⟨SS,h1,h2,h3⟩,o⟩:=h.pw.pc (.str i) hi;have hSl:SS.length=c.ln:=by rw[<-hl,<-h2,qQ]
 refine⟨⟨SS,some ⟨(y.br i).t,0,none⟩,c.ln⟩,by unfold TabR.val;dsimp only;rw[hSl],⟨⟨by have h:=gQ h1.blk h1.blk.lt;simpa using h,λr hr=>Reads.of_own (h1.rows r hr)⟩,by dsimp only;unfold maxLen;omega,λr hr=>by have:=h1.small r hr;unfold maxLen;omega⟩,h2⟩
end
theorem zFp(c:Cfg)(zs:List Int)(h:c.m<=3):(fQ c zs).1.length<=8:=by
 unfold fQ
 split
 ·exact qL _
 split
 ·exact qL _
 rename_i hl
 split
 ·exact qL _
 unfold gM;have hfst:(zs.map λz:Int=>((21:Int),z)).map (·.1)=List.replicate zs.length 21:=by rw[List.map_map];exact List.map_const'
 rw[hfst];have hm:zs.length<=3:=by unfold Cfg.m at h;omega
 have hb:∀n,n<=3->(zAc (List.replicate n 21)).1.toNat<=8:=λn hn=>by
  obtain h|h|h|h:n=0\/n=1\/n=2\/n=3:=by omega
  all_goals rw[h];decide
 split
 ·exact qL _
 split
 ·have:=hb _ hm;simpa[bytesOf]using this
 ·exact qL _
theorem zPv(c:Cfg)(a b:Int)(R:List (List Ent))(h:c.ln<=4):(bT c a b R).1.length<=136:=by
 have:=zGa a.toNat b.toNat c.la.zs 0;unfold Cfg.ln at h;unfold bT
 split
 ·exact qL _
 split
 ·exact qL _
 split
 ·exact qL _
 split
 ·exact qL _
 split
 ·exact qL _
 ·simp[bytesOf];omega
def BytCut(l:List Int)(W:World)(v:Value):Prop:=∃A n cc B,v= .slice A n cc/\l.length=n/\W.ownsRow B 5 1 (.slice A n cc) n (l.map (.int .u8))
theorem BytCut.of{l:List Int}{W:World}{v:Value}{B:Nat}(h:W.ownsRow B 5 1 v l.length (l.map (.int .u8))):BytCut l W v:=by obtain⟨A,c,rfl,_⟩:=bE h;exact⟨A,_,c,B,rfl,rfl,h⟩
theorem zPt(S:WS)(c:Cfg):S.rounds c 0=S:=by show WS.mk _ _ _ _ _ _ _ _=S;simp
theorem rounds_succ(S:WS)(c:Cfg)(k:Nat):S.rounds c (k+1)={S.rounds c k with bk:=bN (S.rounds c k).bk k (fR c.cap c.tk (S.bk k)).1}:=by
 have h:(S.rounds c (k+1)).bk=bN (S.rounds c k).bk k (fR c.cap c.tk (S.bk k)).1:=by
  funext j
  rw[zBq];show(if j<k+1 then(fR c.cap c.tk (S.bk j)).1 else S.bk j)=if j=k then _ else(if j<k then(fR c.cap c.tk (S.bk j)).1 else S.bk j)
  by_cases h1:j=k
  ·subst h1;rw[if_pos (by omega),if_pos rfl]
  ·rw[if_neg h1];by_cases h2:j<k
   ·rw[if_pos (by omega),if_pos h2]
   ·rw[if_neg (by omega),if_neg h2]
 show WS.mk _ _ _ _ _ _ _ _=_;rw[<-h];rfl
theorem yFh(t:Tol)(A:Option Addr)(n cc:Nat)(rep:List Int):t.cells.toArray.setIfInBounds 10 (.slice A n cc)=(Tol.cells {t with d:={t.d with report:=rep},rA:=A,rn:=n,rc:=cc}).toArray:=by simp[Tol.cells]
structure GivG(R:WS->World->(Nat->Tag)->Prop)(base:Nat)(w:World)(S:WS)(ow:Nat->Tag)(tb wb:Nat)(wt:TypeId)(hq:Nat)(l:List PoD)(rep:List Int)(gb:Nat)(L:List RwI)(t:Tol)(W:World)(ow1:Nat->Tag):Prop where
 tk:TickG R base w S ow tb wb wt hq l rep t W ow1
 giv:GivA W w.heap.size gb L
 gn:ow1 gb= .no
 rn:∀r∈L,∀b,r.v.ownBlock=some b->ow1 b= .no
 gap:Gap L (.slice t.rA t.rn t.rc)
section
variable {w W W':World}{R:WS->World->(Nat->Tag)->Prop}{wt:TypeId}{hq:Nat}{S S':WS}{base tb wb gb:Nat}{ow ow1 ow2:Nat->Tag}{t:Tol}{l:List PoD}{rep:List Int}{L:List RwI}
theorem GivG.turn(h:GivG R base w S ow tb wb wt hq l rep gb L t W ow1)(hp:R (S'.posts l) W' ow2)(hk:Kept W W' ow1 ow2)(hS:S'.lts=S.lts):GivG R base w S' ow tb wb wt hq l rep gb L t W' ow2:=by refine⟨⟨h.tk.tk.turn hp hk,by rw[h.tk.d,hS]⟩,h.giv.only hk.only (λe=>e h.gn) (λr hr k hk2 e=>e (h.rn r hr k hk2)),(hk.old gb h.giv.blk.lt).trans h.gn,λr hr b hb=>(hk.old b ((h.giv.rows r hr).lt b hb).2).trans (h.rn r hr b hb),h.gap⟩
theorem GivG.calm(h:GivG R base w S ow tb wb wt hq l rep gb L t W ow1)(hb:uR W W'):GivG R base w S ow tb wb wt hq l rep gb L t W' ow1:=
 h.turn (h.tk.tk.like.calm h.tk.tk.pw hb) (Kept.calm hb) rfl
theorem GivG.push{w4:World}{i:Nat}{r r':RwI}(h:GivG R base w S ow tb wb wt hq l rep gb L t W ow1)(hi:L[i]? =some r)(hg:W.grownBy w4 r.v.ownBlock)(ho:w4.ownsRow w.heap.size 3 1 r'.v r'.zs.length (r'.zs.map (.int .i64)))(hat:r'.v.ownBlock=r.v.ownBlock\/∃k,r'.v.ownBlock=some k/\W.heap.size<=k):GivG R base w S ow tb wb wt hq l rep gb (L.set i r') t (w4.setCell ⟨gb,i,none⟩ r'.v) ow1/\Only (λk=>k=gb\/r.v.ownBlock=some k) W (w4.setCell ⟨gb,i,none⟩ r'.v):=by
 have hrm:=qB hi;have hrr:=h.giv.rows r hrm;have o1:Only (λk=>r.v.ownBlock=some k) W w4:=(Only.refl _ W).grown hg (λg hg _=>hg);have o2:Only (λk=>k=gb) w4 (w4.setCell ⟨gb,i,none⟩ r'.v):=bJ (Only.refl _ _) _ _;have o3:Only (λk=>k=gb\/r.v.ownBlock=some k) W (w4.setCell ⟨gb,i,none⟩ r'.v):=(o1.mono λx _ h=>Or.inr h).trans o2 λx _ h=>Or.inl h
 have hD:∀k,k<W.heap.size->(k=gb\/r.v.ownBlock=some k)->w.heap.size<=k/\ow1 k= .no:=λk _ hd=>by
  rcases hd with rfl|hd
  ·exact⟨h.giv.low,h.gn⟩
  ·exact⟨(hrr.lt k hd).1,h.rn r hrm k hd⟩
 obtain⟨hp,hKK⟩:=h.tk.tk.touch o3 hD;have hn:∀{e:TypeId} {size n:Nat} {v:Value} {xs:List Value},W.ownsRow w.heap.size e size v n xs->e≠22->(e≠3\/∀k,r.v.ownBlock=some k->v.ownBlock≠some k)->(w4.setCell ⟨gb,i,none⟩ r'.v).ownsRow w.heap.size e size v n xs:=λhv h1 h2=>
  bL hv o3 λk hk hd=>by
   rcases hd with rfl|hd
   ·exact bC hv h.giv.blk h1 hk
   ·rcases h2 with h2|h2
    ·rcases dV hv hrr h2 with e1|e1
     ·rw[e1]at hk;cases hk
     ·exact e1 (by rw[hk,hd])
    ·exact h2 k hd hk
 refine⟨⟨⟨⟨h.tk.tk.like,h.tk.tk.wt1,hp,hKK,h.tk.tk.tn,h.tk.tk.wn,h.tk.tk.bw,h.tk.tk.tl,h.tk.tk.tk.only o3 (λhd=> ?_),h.tk.tk.wk.only o3 (λhd=> ?_),⟨hn h.tk.tk.own.so (by decide) (.inl (by decide)),hn h.tk.tk.own.fo (by decide) (.inl (by decide)),hn h.tk.tk.own.ro (by decide) (.inr λk hk=>h.gap r hrm k hk)⟩,h.tk.tk.no⟩,h.tk.d⟩,h.giv.push hi hg ho hat,h.gn,λx hx b hb=> ?_,h.gap.set_ hi hat λk hk=>(h.tk.tk.own.ro.lt k hk).2⟩,o3⟩
 ·rcases hd with e|e
  ·exact Blk.ne_ h.tk.tk.tk h.giv.blk (by decide) e
  ·exact bC hrr h.tk.tk.tk (by decide) e
 ·rcases hd with e|e
  ·exact Blk.ne_ h.tk.tk.wk h.giv.blk h.tk.tk.wt1.2.2.2 e
  ·exact bC hrr h.tk.tk.wk h.tk.tk.wt1.2.2.1 e
 ·rcases jO hx with hx|rfl
  ·exact h.rn x hx b hb
  ·rcases hat with e|⟨k,e,hk2⟩
   ·exact h.rn r hrm b (by rw[<-e];exact hb)
   ·rw[hb]at e;cases e;exact h.tk.tk.like.fresh h.tk.tk.pw _ hk2
theorem GivG.report{w4:World}{z:Int}{g4 cap4:Nat}(h:GivG R base w S ow tb wb wt hq l rep gb L t W ow1)(hg:W.grownBy w4 (Value.slice t.rA t.rn t.rc).ownBlock)(ho:w4.ownsRow w.heap.size 3 1 (.slice (some ⟨g4,0,none⟩) (t.rn+1) cap4) (t.rn+1) (rep.map (.int .i64)++[.int .i64 z]))(hat:some g4=(Value.slice t.rA t.rn t.rc).ownBlock\/W.heap.size<=g4):GivG R base w S ow tb wb wt hq l (rep++[z]) gb L {t with d:={t.d with report:=rep++[z]},rA:=some ⟨g4,0,none⟩,rn:=t.rn+1,rc:=cap4} (w4.setCell ⟨tb,10,none⟩ (.slice (some ⟨g4,0,none⟩) (t.rn+1) cap4)) ow1/\Only (λk=>k=tb\/(Value.slice t.rA t.rn t.rc).ownBlock=some k) W (w4.setCell ⟨tb,10,none⟩ (.slice (some ⟨g4,0,none⟩) (t.rn+1) cap4)):=by
 have hT:=h.tk.tk;have o1:Only (λk=>(Value.slice t.rA t.rn t.rc).ownBlock=some k) W w4:=(Only.refl _ W).grown hg (λg hg _=>hg);have o2:Only (λk=>k=tb) w4 (w4.setCell ⟨tb,10,none⟩ (.slice (some ⟨g4,0,none⟩) (t.rn+1) cap4)):=bJ (Only.refl _ _) _ _;have o3:Only (λk=>k=tb\/(Value.slice t.rA t.rn t.rc).ownBlock=some k) W (w4.setCell ⟨tb,10,none⟩ (.slice (some ⟨g4,0,none⟩) (t.rn+1) cap4)):=(o1.mono λx _ h=>Or.inr h).trans o2 λx _ h=>Or.inl h
 have k4:Blk w4 tb 57 t.cells.toArray:=hT.tk.only o1 (bC hT.own.ro hT.tk (by decide));have hD:∀k,k<W.heap.size->(k=tb\/(Value.slice t.rA t.rn t.rc).ownBlock=some k)->w.heap.size<=k/\ow1 k= .no:=λk _ hd=>by
  rcases hd with rfl|hd
  ·exact⟨hT.tl,hT.tn⟩
  ·exact⟨(hT.rowD (Or.inr (Or.inr rfl)) hd).1.1,(hT.rowD (Or.inr (Or.inr rfl)) hd).2⟩
 have hn:∀{e:TypeId} {size n:Nat} {v:Value} {xs:List Value},W.ownsRow w.heap.size e size v n xs->e≠3->e≠57->(w4.setCell ⟨tb,10,none⟩ (.slice (some ⟨g4,0,none⟩) (t.rn+1) cap4)).ownsRow w.heap.size e size v n xs:=λhv h1 h2=>
  bL hv o3 λk hk hd=>by
   rcases hd with rfl|hd
   ·exact bC hv hT.tk h2 hk
   ·rcases dV hv hT.own.ro h1 with e1|e1
    ·rw[e1]at hk;cases hk
    ·exact e1 (by rw[hk,hd])
 obtain⟨hp,hKK⟩:=hT.touch o3 hD;have hown':w4.ownsRow w.heap.size 3 1 (.slice (some ⟨g4,0,none⟩) (t.rn+1) cap4) (t.rn+1) ((rep++[z]).map (.int .i64)):=by rw[jA];exact ho
 have hg4:∀k,(Value.slice (some ⟨g4,0,none⟩) (t.rn+1) cap4).ownBlock=some k->k=g4:=λk hk=>by simpa[Value.ownBlock]using hk.symm
 refine⟨⟨⟨⟨hT.like,hT.wt1,hp,hKK,hT.tn,hT.wn,hT.bw,hT.tl,?_,hT.wk.only o3 (λhd=> ?_),⟨hn hT.own.so (by decide) (by decide),hn hT.own.fo (by decide) (by decide),bL hown' o2 λk hk e=>bC ho k4 (by decide) (by rw[hk,e])⟩,λv hv k hk=> ?_⟩,by dsimp only;rw[h.tk.d]⟩,
  h.giv.only o3 (λhd=> ?_) (λr hr k hk hd=> ?_),h.gn,h.rn,h.gap.to_ h.giv (qA _) λk hk=> ?_⟩,o3⟩
 ·rw[<-yFh];exact k4.set_ 10 _
 ·rcases hd with e|e
  ·exact Blk.ne_ hT.wk hT.tk hT.wt1.1 e
  ·exact bC hT.own.ro hT.wk hT.wt1.2.2.1 e
 ·rcases hv with rfl|rfl|rfl
  ·exact hT.no _ (Or.inl rfl) k hk
  ·exact hT.no _ (Or.inr (Or.inl rfl)) k hk
  ·have:=hg4 k hk;subst this;rcases hat with e|e
   ·exact(hT.rowD (Or.inr (Or.inr rfl)) e.symm).2
   ·exact hT.like.fresh hT.pw _ e
 ·rcases hd with e|e
  ·exact Blk.ne_ h.giv.blk hT.tk (by decide) e
  ·exact bC hT.own.ro h.giv.blk (by decide) e
 ·rcases hd with rfl|hd
  ·exact bC (h.giv.rows r hr) hT.tk (by decide) hk
  ·exact h.gap r hr k hk hd
 ·have:=hg4 k hk;subst this;rcases hat with e|e
  ·exact .inl e.symm
  ·exact .inr e
theorem GivG.send{p:PoD}{e:Ending}(h:GivG R base w S ow tb wb wt hq l rep gb L t W ow1)(hp:zQy R base w (S.posts l) ow tb wb wt hq t p W ow1 e W'):e= .returned (.tuple #[])/\∃(t2:Tol) (ow2:Nat->Tag),GivG R base w S ow tb wb wt hq (l++[p]) rep gb L t2 W' ow2:=by
 obtain⟨rfl,t2,ow2,h1,⟨h2,h3,h4⟩,h5,h6⟩:=h.tk.send hp;refine⟨rfl,t2,ow2,h1,h.giv.only h5 (λhd=> ?_) (λr hr k hk hd=> ?_),(h6 gb h.giv.blk.lt).trans h.gn,λr hr b hb=>(h6 b ((h.giv.rows r hr).lt b hb).2).trans (h.rn r hr b hb),by rw[h2,h3,h4];exact h.gap⟩
 ·rcases hd with e|e|e
  ·exact e h.gn
  ·exact Blk.ne_ h.giv.blk h.tk.tk.tk (by decide) e
  ·exact bC h.tk.tk.own.so h.giv.blk (by decide) e
 ·rcases hd with e|rfl|e
  ·exact e (h.rn r hr k hk)
  ·exact bC (h.giv.rows r hr) h.tk.tk.tk (by decide) hk
  ·rcases dV h.tk.tk.own.so (h.giv.rows r hr) (by decide)with e1|e1
   ·rw[e1]at e;cases e
   ·exact e1 (by rw[e,hk])
end
abbrev zJo(w:World)(c:Cfg)(y:Lay)(S:WS)(K base:Nat)(ow:Nat->Tag)(tb wb:Nat)(l:List PoD)(rep:List Int)(gb:Nat)(L:List RwI)(t:Tol)(W:World)(ow1:Nat->Tag):Prop:=GivG (PWr c y K base) base w S ow tb wb 60 y.hb l rep gb L t W ow1
theorem zYj{L:List RwI}{n q:Nat}{F G:Nat->List Int}(h:L.map RwI.zs=(List.range n).map λi=>if i<q then G i else F i)(hq:q<n){z:Int}(hG:G q=F q++[z]):∃r,L[q]? =some r/\r.zs=F q/\∀v,(L.set q ⟨v,r.zs++[z]⟩).map RwI.zs=(List.range n).map λi=>if i<q+1 then G i else F i:=by
 have hl:L.length=n:=by have:=congrArg List.length h;simpa using this
 have hr:L[q]? =some (L[q]'(by omega)):=qI (by omega);generalize L[q]'(by omega)=r at hr;have hz:r.zs=F q:=by have h2:=congrArg (λl:List (List Int)=>l[q]?) h;simp[hr,hq]at h2;exact h2
 refine⟨r,hr,hz,λv=> ?_⟩;rw[List.map_set,h];refine List.ext_getElem? λi=> ?_
 rw[List.getElem?_set];by_cases hi:q=i
 ·subst hi;simp[hq,hz,hG]
 ·by_cases hin:i<n
  ·have e:(i<q+1)=(i<q):=propext ⟨λ_=>by omega,λ_=>by omega⟩;simp[hi,hin,e]
  ·simp[hi,hin]
theorem zXl{L:List RwI}{n:Nat}{F G:Nat->List Int}(h:L.map RwI.zs=(List.range n).map λi=>if i<n then G i else F i):L.map RwI.zs=(List.range n).map G:=by rw[h];exact List.map_congr_left λi hi=>if_pos (jZ.1 hi)
theorem giv_at{L:List RwI}{n q:Nat}{G:Nat->List Int}(h:L.map RwI.zs=(List.range n).map G)(hq:q<n):∃r,L[q]? =some r/\r.zs=G q:=by
 have hl:L.length=n:=by have:=congrArg List.length h;simpa using this
 have hr:L[q]? =some (L[q]'(by omega)):=qI (by omega);generalize L[q]'(by omega)=r at hr;have h2:=congrArg (λl:List (List Int)=>l[q]?) h;simp[hr,hq]at h2;exact⟨r,hr,h2⟩
theorem zVl(c:Cfg)(S:WS)(k who:Nat):(fO c S k who).length=k:=by simp[fO]
section
variable {w W W':World}{c:Cfg}{y:Lay}{S:WS}{K base tb wb gb:Nat}{ow ow1:Nat->Tag}{t:Tol}{L:List RwI}
theorem GivG.fin{wt:TypeId}(h:GivG (PWr c y K base) base w (S.aged.rounds c c.m) ow tb wb wt y.hb (cA c S.aged c.n++dW c S c.n) (dJ c S c.m) gb L t W ow1)(ho:Only (λk=>k=tb) W W'):fI w c y K base ow (zGs c S) (.returned t.val) W':=by
 have hT:=h.tk.tk;obtain⟨hp,hk⟩:=hT.touch ho (λk _ e=>⟨by rw[e];exact hT.tl,by rw[e];exact hT.tn⟩);have hn:∀{e:TypeId} {size n:Nat} {v:Value} {xs:List Value},W.ownsRow w.heap.size e size v n xs->e≠57->W'.ownsRow w.heap.size e size v n xs:=λhv h1=>bL hv ho λk hk e=>bC hv hT.tk h1 (by rw[hk,e])
 exact⟨t,rfl,h.tk.d,⟨hn hT.own.so (by decide),hn hT.own.fo (by decide),hn hT.own.ro (by decide)⟩,ow1,hp,hk,hT.no⟩
end
section
variable {fs:List FrR}{top:Int->Int->Int}{lost:Int->Bool}
theorem Flags.push(h:Flags fs top lost){f:FrR}(hf:f.lost=lost fs.length)(ho:f.opened=false):Flags (fs++[f]) top lost:=by
 have key:∀(k:Nat) (g:FrR),(fs++[f])[k]? =some g->fs[k]? =some g\/(k=fs.length/\g=f):=λk g hk=>by
  by_cases hlt:k<fs.length
  ·rw[List.getElem?_append_left hlt]at hk;exact .inl hk
  ·rw[uG (by omega)]at hk;have hk0:k-fs.length=0:=by have:=(qK.1 hk).1;simp at this;omega
   rw[hk0]at hk;exact .inr ⟨by omega,by simpa using hk.symm⟩
 refine⟨λk g hk=> ?_,λk g hk hg=> ?_,λa b hab=> ?_⟩
 ·rcases key k g hk with h1|⟨rfl,rfl⟩
  ·exact h.lost k g h1
  ·exact hf
 ·rcases key k g hk with h1|⟨rfl,rfl⟩
  ·exact h.below k g h1 hg
  ·rw[ho]at hg;cases hg
 ·obtain⟨k,g,h1,h2⟩:=h.top a b hab;exact⟨k,g,by rw[List.getElem?_append_left (qK.1 h1).1];exact h1,h2⟩
theorem Flags.setLost(h:Flags fs top lost){k:Nat}{f:FrR}(hk:fs[k]? =some f):Flags (fs.set k {f with lost:=true}) top (λi=>if i=(k:Int)then true else lost i):=by
 have hl:=(qK.1 hk).1;have key:∀(j:Nat) (g:FrR),(fs.set k {f with lost:=true})[j]? =some g->(j=k/\g={f with lost:=true})\/(j≠k/\fs[j]? =some g):=λj g hj=>by
  rw[List.getElem?_set]at hj;by_cases e:k=j
  ·subst e;rw[if_pos rfl,if_pos hl]at hj;injection hj with hj;exact .inl ⟨rfl,hj.symm⟩
  ·rw[if_neg e]at hj;exact .inr ⟨λe2=>e e2.symm,hj⟩
 refine⟨λj g hj=> ?_,λj g hj hg=> ?_,λa b hab=> ?_⟩
 ·rcases key j g hj with⟨rfl,rfl⟩|⟨h1,h2⟩
  ·simp
  ·rw[if_neg (by omega)];exact h.lost j g h2
 ·rcases key j g hj with⟨rfl,rfl⟩|⟨h1,h2⟩
  ·exact h.below j f hk hg
  ·exact h.below j g h2 hg
 ·obtain⟨j,g,h1,h2,h3,h4,h5⟩:=h.top a b hab;by_cases e:j=k
  ·subst e;obtain rfl:f=g:=by rw[hk]at h1;injection h1
   exact⟨j,{f with lost:=true},by rw[jM hl],h2,h3,h4,h5⟩
  ·exact⟨j,g,by rw[jX λe2=>e e2.symm];exact h1,h2,h3,h4,h5⟩
theorem Flags.setOpened(h:Flags fs top lost){k:Nat}{f:FrR}(hk:fs[k]? =some f)(ht:top f.d.fr f.d.to_<=k):Flags (fs.set k {f with opened:=true}) (λa b=>if a=f.d.fr/\b=f.d.to_ then(k:Int)+1 else top a b) lost:=by
 have hl:=(qK.1 hk).1;have key:∀(j:Nat) (g:FrR),(fs.set k {f with opened:=true})[j]? =some g->(j=k/\g={f with opened:=true})\/(j≠k/\fs[j]? =some g):=λj g hj=>by
  rw[List.getElem?_set]at hj;by_cases e:k=j
  ·subst e;rw[if_pos rfl,if_pos hl]at hj;injection hj with hj;exact .inl ⟨rfl,hj.symm⟩
  ·rw[if_neg e]at hj;exact .inr ⟨λe2=>e e2.symm,hj⟩
 refine⟨λj g hj=> ?_,λj g hj hg=> ?_,λa b hab=> ?_⟩
 ·rcases key j g hj with⟨rfl,rfl⟩|⟨h1,h2⟩
  ·exact h.lost j f hk
  ·exact h.lost j g h2
 ·rcases key j g hj with⟨rfl,rfl⟩|⟨h1,h2⟩
  ·rw[if_pos ⟨rfl,rfl⟩];omega
  ·have:=h.below j g h2 hg
   split
   ·rename_i e;rw[e.1,e.2]at this;omega
   ·exact this
 ·by_cases e:a=f.d.fr/\b=f.d.to_
  ·rw[if_pos e];exact⟨k,{f with opened:=true},by rw[jM hl],rfl,e.1.symm,e.2.symm,rfl⟩
  ·rw[if_neg e]at hab⊢;obtain⟨j,g,h1,h2,h3,h4,h5⟩:=h.top a b hab;have hjk:j≠k:=λe2=>by subst e2;rw[hk]at h1;injection h1 with h1;subst h1;exact e ⟨h3.symm,h4.symm⟩
   exact⟨j,g,by rw[jX λe2=>hjk e2.symm];exact h1,h2,h3,h4,h5⟩
def zCx(fs:List FrR)(f:FrR)(a b:Nat):Bool:=((fs.take b).drop a).any λg=>g.opened&&decide (g.d.fr=f.d.fr)&&decide (g.d.to_=f.d.to_)
theorem Flags.old(h:Flags fs top lost){k:Nat}{f:FrR}(hk:fs[k]? =some f):zCx fs f k fs.length=decide ((k:Int)<top f.d.fr f.d.to_):=by
 unfold zCx;rw[List.take_length,Bool.eq_iff_iff,List.any_eq_true,decide_eq_true_eq]
 constructor
 ·rintro⟨g,hg,hp⟩;simp only[qT,decide_eq_true_eq]at hp;obtain⟨j,hj⟩:=List.getElem?_of_mem hg;rw[List.getElem?_drop]at hj;have:=h.below _ g hj hp.1.1;rw[hp.1.2,hp.2]at this;omega
 ·intro hlt;obtain⟨j,g,h1,h2,h3,h4,h5⟩:=h.top f.d.fr f.d.to_ (by omega);refine⟨g,?_,by simp[h2,h3,h4]⟩;have hjk:k<=j:=by omega
  have:(fs.drop k)[j-k]? =some g:=by rw[List.getElem?_drop,show k+(j-k)=j by omega];exact h1
  exact qB this
theorem zVu{f:FrR}{a b:Nat}{g:FrR}(hab:a<=b)(hg:fs[b]? =some g):zCx fs f a (b+1)=(zCx fs f a b||(g.opened&&decide (g.d.fr=f.d.fr)&&decide (g.d.to_=f.d.to_))):=by unfold zCx;have hb:=(qK.1 hg).1;rw[dB fs b g hg,List.drop_append_of_le_length (by rw[qY];omega),List.any_append];simp
end
section
variable {w w' W:World}{c:Cfg}{y:fD}{S:WS}{K base:Nat}{ow:Nat->Tag}
theorem rw_like(c:Cfg)(y:fD)(K base:Nat):RLike (λS W o=>RW W c y S K base o) base:=⟨λh ho hD hb=>h.far ho hD hb,λh=>h.fresh,λh=>h.bw⟩
theorem RW.turnOff(h:RW w c y S K base ow)(F:Nat->Bool){D:Nat->Prop}{lts:List PoD}{top:Int->Int->Int}{lost:Int->Bool}(ho:Only D w w')(hD:∀k,k<w.heap.size->D k->ow k= .off)(hn:FrRow w' base c y lts top lost λk=>zAa ow w w' .off F k= .off):RW w' c y {S with lts:=lts,top:=top,lost:=lost} K base (zAa ow w w' .off F)/\Kept w w' ow (zAa ow w w' .off F):=by
 refine⟨h.turn .off F (by simp) ho hD (λu hu W own hp=> ?_) hn,Kept.turn _ _ (by simp) ho hD⟩;cases u with
 |off=>exact absurd rfl hu
 |_=>exact hp
theorem RW.claim(h:RW w c y S K base ow)(hb:uR w w'){v:Value}{n:Nat}{xs:List Value}{e:TypeId}(hv:w'.ownsRow w.heap.size e 1 v n xs):∃ow',RW w' c y S K base ow'/\Kept w w' ow ow'/\∀k,v.ownBlock=some k->ow' k= .off:=by have ho:Only (λ_=>False) w w':=Only.of_below hb (λx h1 h2=>by omega);obtain⟨h1,h2⟩:=h.turnOff (λk=>decide (v.ownBlock=some k)) (lts:=S.lts) (top:=S.top) (lost:=S.lost) ho (λk _ e=>e.elim) (FrRow.only (h.pc .off) ho (λ_ _ _ e=>e) λk hk e=>by rw[cV hk];exact e);exact⟨_,h1,h2,λk hk=>zCo (hv.lt k hk).1 (hv.lt k hk).2 (by simpa using hk)⟩
theorem RW.land(h:RW w c y S K base ow):∃v,Blk w y.hb 92 (landC c y v):=by obtain⟨⟨v,_,h1,_⟩,_⟩:=h.pc .off;exact⟨v,h1⟩
theorem RW.frames(h:RW w c y S K base ow):∃v fs,w.cell? ⟨y.hb,10,none⟩=some v/\w.frozen? ⟨y.hb,10,none⟩=false/\w.ownsRow base 146 5 v fs.length (fs.flatMap FrR.cells)/\fs.map (·.d)=S.lts/\Flags fs S.top S.lost/\ ((∀id,S.lost id=true->id<S.lts.length)->∀(f:FrR) (w4:World) (v4:Value),w.grownBy w4 v.ownBlock->w4.ownsRow base 146 5 v4 (fs.length+1) (fs.flatMap FrR.cells++f.cells)->(v4.ownBlock=v.ownBlock\/∃k,v4.ownBlock=some k/\w.heap.size<=k)->f.lost=false->f.opened=false-> w.ownsRow base 5 1 f.val f.n (f.d.data.map (.int .u8))->(∀k,f.val.ownBlock=some k->ow k= .off)->∃ow',RW (w4.setCell ⟨y.hb,10,none⟩ v4) c y (S.posts [f.d]) K base ow'/\Kept w (w4.setCell ⟨y.hb,10,none⟩ v4) ow ow'):=by
 obtain⟨⟨v,fs,h1,h2,h3,h4,h5,h6⟩,o⟩:=h.pc .off;refine⟨v,fs,h1.cell 10,h1.frozen 10,h2,h3,h5,λhls f w4 v4 hg hown hat hf1 hf2 hfr hfo=> ?_⟩;have o1:Only (λk=>v.ownBlock=some k) w w4:=(Only.refl _ w).grown hg (λg hg _=>hg);have o2:Only (λk=>k=y.hb) w4 (w4.setCell ⟨y.hb,10,none⟩ v4):=bJ (Only.refl _ _) _ _;have o3:Only (λk=>k=y.hb\/v.ownBlock=some k) w (w4.setCell ⟨y.hb,10,none⟩ v4):=(o1.mono λx _ h=>Or.inr h).trans o2 λx _ h=>Or.inl h
 have k4:=h1.only o1 (bC h2 h1 (by decide));have hlen:fs.length=S.lts.length:=by rw[<-h3,qQ]
 have hrow:∀g:FrR,w.ownsRow base 5 1 g.val g.n (g.d.data.map (.int .u8))->(w4.setCell ⟨y.hb,10,none⟩ v4).ownsRow base 5 1 g.val g.n (g.d.data.map (.int .u8)):=λg hg=>bL hg o3 λk hk hd=>by
  rcases hd with rfl|hd
  ·exact bC hg h1 (by decide) hk
  ·rcases dV hg h2 (by decide)with e1|e1
   ·rw[e1]at hk;cases hk
   ·exact e1 (by rw[hk,hd])
 refine(λhz=> ?_:(_/\_)->_) (h.turnOff (λk=>decide (v4.ownBlock=some k)) (lts:=S.lts++[f.d]) (top:=S.top) (lost:=S.lost) o3 (λk _ hd=>by
  rcases hd with rfl|hd
  ·exact o
  ·exact h6 k hd) ⟨⟨v4,fs++[f],?_,?_,by rw[jA,h3];rfl,λg hg=> ?_,h5.push (by
   rw[hf1,hlen];cases hb:S.lost (S.lts.length:Nat)with
   |false=>rfl
   |true=>have:=hls _ hb;omega) hf2,λk hk=> ?_⟩,by rw[cV h1.lt];exact o⟩)
 ·exact⟨_,hz.1,hz.2⟩
 ·have:=k4.set_ 10 v4;exact this
 ·rw[qM,jN];have:w4.ownsRow base 146 5 v4 (fs.length+1) (fs.flatMap FrR.cells++[f].flatMap FrR.cells):=by simpa using hown
  exact bL this o2 λk hk e=>bC this k4 (by decide) (by rw[hk,e])
 ·rcases jI.1 hg with hg|hg
  ·exact⟨hrow g (h4 g hg).1,λk hk=>by rw[cV ((h4 g hg).1.lt k hk).2];exact(h4 g hg).2 k hk⟩
  ·rw[jJ]at hg;subst hg;exact⟨hrow g hfr,λk hk=>by rw[cV (hfr.lt k hk).2];exact hfo k hk⟩
 ·have hk2:=(bL hown o2 λk hk e=>bC hown k4 (by decide) (by rw[hk,e])).lt k hk;rcases hat with e|⟨b,e,hb⟩
  ·rw[e]at hk;rw[cV (h2.lt k hk).2];exact h6 k hk
  ·rw[hk]at e;injection e with e;subst e;exact zCo hb hk2.2 (by simpa using hk)
theorem RW.flag(h:RW w c y S K base ow){k:Nat}{p:PoD}(hp:S.lts[k]? =some p):∃(g o:Nat) (f:FrR),f.d=p/\w.cell? ⟨y.hb,10,none⟩=some (.slice (some ⟨g,0,none⟩) S.lts.length o)/\ (∀j u,f.cells[j]? =some u->w.cell? ⟨g,k*5+j,none⟩=some u)/\(∀j,w.frozen? ⟨g,j,none⟩=false)/\f.lost=S.lost k/\ TurnR w c y (S.lose k) K base ow (w.setCell ⟨g,k*5+3,none⟩ (.bool true))/\(S.top p.fr p.to_<=k->TurnR w c y (S.opened p k) K base ow (w.setCell ⟨g,k*5+4,none⟩ (.bool true))):=by
 obtain⟨⟨v,fs,h1,h2,h3,h4,h5,h6⟩,o⟩:=h.pc .off;have hlen:fs.length=S.lts.length:=by rw[<-h3,qQ]
 have hk:=(qK.1 hp).1;obtain⟨f,hf⟩:∃f,fs[k]? =some f:=⟨_,qI (by omega)⟩;have hfd:f.d=p:=by
  have e:(fs.map (·.d))[k]? =some f.d:=by rw[qV,hf];rfl
  rw[h3,hp]at e;injection e with e;exact e.symm
 obtain⟨A,cc,hv,_⟩:=bE h2;obtain⟨g,cap,cur,hv2,hkb,hgb,hnc,hcm,hcs,hct⟩:∃g cap cur,v= .slice (some ⟨g,0,none⟩) fs.length cap/\Blk w g 146 cur/\base<=g/\fs.length<=cap/\cap<=maxLen/\cur.size=cap*5/\cur.toList.take (fs.length*5)=fs.flatMap FrR.cells:=by
  rcases h2.2 with⟨e0,_⟩|⟨g',cap',cur,e1,hb,hh,hnc,hcm,hs,ht⟩
  ·rw[e0]at hv;injection hv with _ h0 _;omega
  ·exact⟨g',cap',cur,e1,hh,hb,hnc,hcm,hs,ht⟩
 subst hv2;have hog:ow g= .off:=h6 g rfl;have hcell:∀j u,f.cells[j]? =some u->w.cell? ⟨g,k*5+j,none⟩=some u:=λj u hj=>by
  obtain⟨b,oo,x,e,_,hx,hc⟩:=fB FrR.cells_len (by omega) (Reads.of_own h2) (k:=k) (by omega) rfl;injection e with e;injection e with e1 e2;subst e1 e2;rw[hf]at hx;injection hx with hx;subst hx;have:=hc j u hj
  rwa[Nat.zero_add]at this
 have key:∀(j:Nat) (u:Value) (f':FrR) (top:Int->Int->Int) (lost:Int->Bool),j<5->f.cells.set j u=f'.cells->f'.d=f.d/\f'.A=f.A/\f'.n=f.n/\f'.c=f.c->Flags (fs.set k f') top lost->TurnR w c y {S with lts:=S.lts,top:=top,lost:=lost} K base ow (w.setCell ⟨g,k*5+j,none⟩ u):=λj u f' top lost hj hce hfe hfl=>by
  have ho:Only (λb=>b=g) w (w.setCell ⟨g,k*5+j,none⟩ u):=bJ (Only.refl _ w) _ _;refine(λhz=> ?_:(_/\_)->_) (h.turnOff (λ_=>false) (lts:=S.lts) (top:=top) (lost:=lost) ho (λb _ e=>by rw[e];exact hog) ⟨⟨.slice (some ⟨g,0,none⟩) fs.length cap,fs.set k f',h1.only ho (Blk.ne_ h1 hkb (by decide)),?_,?_,λx hx=> ?_,hfl,λb hb=> ?_⟩,by rw[cV h1.lt];exact o⟩)
  ·exact⟨_,hz.1,hz.2⟩
  ·rw[List.length_set];refine⟨by rw[zEp FrR.cells_len,List.length_set],.inr ⟨g,cap,_,rfl,hgb,hkb.set_ (k*5+j) u,hnc,hcm,by simpa using hcs,?_⟩⟩;simp only[Array.toList_setIfInBounds,List.take_set];rw[hct,zEh FrR.cells_len fs k j f f' u hf hj hce]
  ·rw[List.map_set,hfe.1,h3,hfd];exact zJq _ _ _ hp
  ·have hx':∃z∈fs,x.val=z.val/\x.n=z.n/\x.d=z.d:=by
    rcases jO hx with hx|rfl
    ·exact⟨x,hx,rfl,rfl,rfl⟩
    ·refine⟨f,qB hf,?_,hfe.2.2.1,hfe.1⟩;unfold FrR.val;rw[hfe.2.1,hfe.2.2.1,hfe.2.2.2]
   obtain⟨z,hz,e1,e2,e3⟩:=hx';rw[e1,e2,e3];exact⟨bL (h4 z hz).1 ho (λq hq e=>bC (h4 z hz).1 hkb (by decide) (by rw[hq,e])),λq hq=>by rw[cV ((h4 z hz).1.lt q hq).2];exact(h4 z hz).2 q hq⟩
  ·rw[cV (h2.lt b hb).2];exact h6 b hb
 refine⟨g,cap,f,hfd,by rw[<-hlen];exact h1.cell 10,hcell,λj=>hkb.frozen j,h5.lost k f hf,key 3 _ {f with lost:=true} S.top _ (by omega) rfl ⟨rfl,rfl,rfl,rfl⟩ (h5.setLost hf),λht=> ?_⟩;subst hfd;exact key 4 _ {f with opened:=true} _ S.lost (by omega) rfl ⟨rfl,rfl,rfl,rfl⟩ (h5.setOpened hf ht)
end
theorem StoreAt.new{w:World}{base g n:Nat}(h:Blk w g 103 (zAy n))(hb:base<=g):StoreAt w base g (List.replicate n EnR.nil):=by
 refine⟨?_,λr hr=> ?_,λr hr=> ?_,hb⟩
 ·rw[List.map_replicate];exact h
 ·rw[(uB.1 hr).2];exact qH _ _ _ _
 ·rw[(uB.1 hr).2];exact qL _
theorem StoreAt.tab{w:World}{base g n:Nat}{SS:List EnR}(h:StoreAt w base g SS)(hn:SS.length=n)(hm:n<=maxLen):∃t:TabR,t.val= .slice (some ⟨g,0,none⟩) n n/\t.rs=SS/\TabOwn w base t:=by refine⟨⟨SS,some ⟨g,0,none⟩,n⟩,by unfold TabR.val;dsimp only;rw[hn],rfl,⟨?_,h.rows⟩⟩;unfold TabR.val;dsimp only;exact⟨by rw[qQ,Nat.mul_one],.inr ⟨g,n,_,by rw[hn],h.low,h.blk,by omega,hm,by simp[hn],by simp[qS]⟩⟩
theorem zXx:∃i,prog.info? 103=some i/\∃z,i.zero=some z/\z.cells.toList=[Value.slice none 0 0]/\i.size=1/\i.bytes=24:=zAb (by kernel_rfl)
section
variable {w:World}{c:Cfg}{y:fD}{S:WS}{K base:Nat}{ow:Nat->Tag}
theorem zVc(h:RW w c y S K base ow)(i:Nat)(hi:i<c.n)(hst:(S.st i).length=c.ln/\∀q∈S.st i,bU q=true):Calls prog 29 #[.pointer (some ⟨y.hb,0,none⟩),.int .i64 i] w λe w'=>∃t:TabR,e= .returned t.val/\t.rs.map EnR.es=S.st i/\TabOwn w' w.heap.size t/\uR w w':=by
 obtain⟨v0,hl⟩:=h.land;have hln:=(bK h.may).2.1;obtain⟨n,hn⟩:=kB c.ln;obtain⟨iL,hiL,zL,hzL,hcL,hsL,hyL⟩:=zXx;have hmk:=dN (P:=prog) 78 103 iL _ underlying78 hiL hzL .i64 .i64 n n (qA _) (by rw[hyL];omega) (by omega) w;rw[hsL,Nat.mul_one,zGy n zL.cells hcL]at hmk;have c1:w.cell? ⟨y.hb,1,none⟩=some (.slice c.la.A n c.la.c):=by rw[hn];show _=some (Value.slice c.la.A c.ln c.la.c);rw[show c.ln=c.la.n from h.cfg.1.1];exact hl.cell 1
 obtain⟨HN,HH,HST⟩:=uJ hn h hst;have hn4:n<=4:=by omega
 clear hn h hst hl hzL hcL hsL hyL hiL hln;go_enter func29,ntmps29;go_upto_region 2 with fail;obtain⟨g,hg⟩:=kB w.heap.size;obtain⟨w1,hw1⟩:=kB (w.alloc (.cells (zAy n) 103));rw[<-hw1,<-hg];have hb1:=uH hw1;have hs1:StoreAt w1 g g (List.replicate n EnR.nil):= .new (by rw[hw1,hg];exact Blk.new _ _ _) (qA _);have HG:=uT hg;rw[<-hg]at hb1;obtain⟨HB1,HS1⟩:=uI hb1 hs1;clear hmk c1 hw1 hg hb1 hs1;go_wp2_with fail
 go_loopw [16] (λj wr=>∃(k:Nat) (SS:List EnR),k<=n/\j= .int .i64 k/\uS (SS.map EnR.es=(S.st i).take k++List.replicate (n-k) [])/\uS (StoreAt wr g g SS)/\uS (Below g w wr)) (λj _=>n-(intOf j).toNat)
 case atStart=>exact⟨0,_,qL _,rfl,uT (by rw[List.map_replicate];rfl),HS1,HB1⟩
 case round=>
  obtain⟨k,SS,hk,rfl,HE,HS,HB⟩:=hrel;have hSl:SS.length=n:=by have h1:=congrArg List.length HE.s;rw[qQ,qM,qY,jB,HST.s.1,<-HN.s]at h1;omega
  by_cases hlt:k<n
  ·have hki:(k:Int)<(n:Int):=by omega
   have hb:=HB.s;rw[HG.s]at hb;have hr:=HH.s.calm hb;obtain⟨v1,hl⟩:=hr.land;have c8:wr.cell? ⟨y.hb,8,none⟩=some (.pointer (some ⟨y.sb,0,none⟩)):=hl.cell 8;obtain⟨HLI,HSL⟩:=uI (zZl hr i k hi (by rw[<-HN.s];exact hlt)) hSl;clear hb hr hl hSl;go_wp2_with fail;refine HLI.s.mono ?_;rintro _ w3 ⟨v3,rfl,ho3,hb3⟩;obtain⟨A3,c3,rfl,_⟩:=bE ho3;obtain⟨es,hes⟩:=kB ((S.st i).getD k []);rw[<-hes]at ho3⊢;have hsz:g<=wr.heap.size:=by rw[HG.s];exact HB.s.size
   have hs3:=HS.s.calm hb3;have hem:bU es=true:=by rw[hes,qG];have e:(S.st i)[k]? =some ((S.st i)[k]'(by rw[HST.s.1,<-HN.s];exact hlt)):=qI _;rw[e];exact HST.s.2 _ (List.getElem_mem _)
   have he8:es.length<=8:=by unfold bU at hem;rw[qT,decide_eq_true_eq]at hem;exact hem.2
   have h4:=hs3.set_ (i:=k) (r:=⟨es,A3,c3⟩) (by rw[HSL.s];exact hlt) (dU ho3 hsz) he8;have hb4:=Below.only (HB.s.trans (hb3.mono hsz)) (bJ (Only.refl (λx=>x=g) w3) k (EnR.val ⟨es,A3,c3⟩)) (λx hx e=>by omega) (by rw[HG.s];exact(HB.s.trans (hb3.mono hsz)).size);have fz:=hs3.blk.frozen k;have ck:∃u,w3.cell? ⟨g,k,none⟩=some u:=by obtain⟨r,hr⟩:∃r,SS[k]? =some r:=⟨_,qI (by rw[HSL.s];exact hlt)⟩;exact⟨_,hs3.cell hr⟩
   obtain⟨u,ck⟩:=ck;unfold EnR.val at h4 hb4;dsimp only at h4 hb4;obtain⟨H4,HB4⟩:=uI h4 hb4;have HE4:=uT (show(SS.set k ⟨es,A3,c3⟩).map EnR.es=(S.st i).take (k+1)++List.replicate (n-(k+1)) []by
    rw[List.map_set,HE.s];have e:(S.st i)[k]? =some es:=by rw[hes,qG,qI (by rw[HST.s.1,<-HN.s];exact hlt)];rfl
    have htl:((S.st i).take k).length=k:=by rw[qY,HST.s.1,<-HN.s];omega
    rw[dB _ k _ e,List.set_append_right _ _ (by omega),htl,Nat.sub_self,show n-k=(n-(k+1))+1 by omega,List.replicate_succ,List.set_cons_zero,jK];rfl)
   clear ho3 hb3 hs3 hem h4 hb4 hes c8 hsz;go_wp2_with fail;go_roundw
   case rel=>exact⟨k+1,_,by omega,by go_num,HE4,H4,HB4⟩
   case measure=>simp[intOf];omega
  ·obtain rfl:n=k:=by omega
   obtain⟨t,ht1,ht2,ht3⟩:=HS.s.tab hSl (by unfold maxLen;omega);obtain⟨HF,HT⟩:=uI (show t.rs.map EnR.es=S.st i by rw[ht2,HE.s,Nat.sub_self,List.replicate_zero,jR,qS (by rw[HST.s.1,<-HN.s];exact qA _)]) (And.intro ht1 ht3);clear ht1 ht2 ht3 hSl;go_wp2_with fail;go_ret;refine⟨t,by rw[HT.s.1];rfl,HF.s,?_,?_⟩
   ·rw[<-HG.s];exact HT.s.2
   ·have:=HB.s;rw[HG.s]at this;exact this
end
def RT(c:Cfg)(y:fD)(K base:Nat):WS->World->(Nat->Tag)->Prop:=λS W o=>RW W c y S K base o
theorem rt_like(c:Cfg)(y:fD)(K base:Nat):RLike (RT c y K base) base:=rw_like c y K base
def PutL(wb hb:Nat)(v:Value)(W:World):Prop:=W.cell? ⟨wb,0,none⟩=some (.pointer (some ⟨hb,0,none⟩))/\W.cell? ⟨hb,10,none⟩=some v
theorem yHh:∃i,prog.info? 146=some i/\i.zero=some (.agg #[.int .i64 0,.int .i64 0,.slice none 0 0,.bool false,.bool false])/\i.size=5/\i.bytes=48:=gB (by kernel_rfl)
section
variable {w W:World}{c:Cfg}{y:fD}{S:WS}{K base tb wb:Nat}{ow ow1:Nat->Tag}{t:Tol}
theorem zTm(h:TkG (RT c y K base) base w S ow tb wb 64 y.hb t W ow1)(hl:S.lts.length<=1000000)(hls:∀id,S.lost id=true->id<S.lts.length)(fr to_:Int)(A:Option Addr)(n cc:Nat)(data:List Int)(B0:Nat)(hdl:data.length=n)(hn:n<=1000000)(hown:W.ownsRow B0 5 1 (.slice A n cc) n (data.map (.int .u8)))(hB0:base<=B0)(hoff:∀k,(Value.slice A n cc).ownBlock=some k->ow1 k= .off)(hs:t.sn<=1000000):Calls prog 68 #[.int .i64 fr,.int .i64 to_,.slice A n cc,.pointer (some ⟨tb,0,none⟩),.pointer (some ⟨wb,0,none⟩)] W (zQy (RT c y K base) base w S ow tb wb 64 y.hb t ⟨fr,to_,data⟩ W ow1):=by
 obtain⟨iE,hiE,hzE,hsE,hyE⟩:=zVd;obtain⟨iS,hiS,hzS,hsS,hyS⟩:=yHh;obtain⟨v,fs,c10,_,hv,hfl,_⟩:=RW.frames (show RW W c y S K base ow1 from h.pw);obtain⟨vA,vc,rfl,_⟩:=bE hv;have hlen:fs.length=S.lts.length:=by rw[<-hfl,qQ]
 rw[hlen]at c10;obtain⟨L,hL⟩:=kB S.lts.length;rw[<-hL]at c10 hl;have e8:=λm:Ext W=>m.cell (show W.cell? ⟨tb,8,none⟩=some (.slice t.sA t.sn t.sc)from h.tk.cell 8)
 have e0:=λm:Ext W=>m.cell (show W.cell? ⟨wb,0,none⟩=some (.pointer (some ⟨y.hb,0,none⟩))from h.wk.cell 0)
 have e10:=λm:Ext W=>m.cell c10
 obtain⟨HH,HL,HDL,HLS,HOW,HOF⟩:=uM h hL hdl hls hown hoff;clear h hL hdl hls hown hoff hv hfl hlen c10;go_enter func68,ntmps68;go_upto_region 0 with fail;refine bO [] [0,1,2,3,4,5,6,7,8,9,10] [] [11,12] 13 [14,15] (by kernel_rfl) (by kernel_rfl) (by intro c a d v w h;cases d<;>exact h) ?_;simp only[bB,qJ,qO,qD,qE];refine qF ?_
 repeat(go_big_quiet_step (fail))
 refine qF (qF ?_);rintro W1 ⟨nq,hW⟩;have hWB:uR W W1:=hW▸nq.h;clear hW e8 e0 e10;have h1:=HH.s.calm hWB;have HW1:=uT (bI HOW.s hWB);simp only[fJ];go_wp2_with fail;refine⟨⟨⟨_,hWB⟩,rfl⟩,?_⟩;go_wp2_with fail;refine⟨⟨⟨_,hWB.alloc hWB.size _⟩,rfl⟩,?_⟩;obtain⟨HO1,HMQ⟩:=uI h1.own.so (show(t.sn+1)*32<=140737488355328 by omega);have hsz:=h1.kept.only.size;obtain⟨H1,HB1⟩:=uI h1 hWB;clear h1 hWB;go_wp2_with(first
  |(at_builtin;(refine bF W1 rfl (.tmp 9) (.tmp 20) _ rfl w.heap.size 111 iE _ 4 32 underlying54 hiE hzE hsE hyE rfl (by omega) (by omega) _ t.sn _ HO1.s rfl _ 1 _ rfl rfl rfl (by simp[Value.oneCell']) HMQ.s hsz ?_);intro g4 cap4 w4 hg4 hown4 hbel4 hgr4 hat4
    have k8:w4.cell? ⟨tb,8,none⟩=some (.slice t.sA t.sn t.sc):=(H1.s.grownS hgr4).2.1.cell 8;have f8:w4.frozen? ⟨tb,8,none⟩=false:=(H1.s.grownS hgr4).2.1.frozen 8;obtain⟨h5,o5⟩:=H1.s.send (l:=[⟨L,fr,to_,n⟩]) hgr4 hown4 hat4;have hw5:=bL (fP HW1.s HO1.s (by decide) hgr4) (bJ (Only.refl (λk=>k=tb) w4) 8 (.slice (some ⟨g4,0,none⟩) (t.sn+1) cap4)) (λk hk e=>bC (fP HW1.s HO1.s (by decide) hgr4) (H1.s.grownS hgr4).2.1 (by decide) (by rw[hk,e]));obtain⟨H5,O5,HW5⟩:=uJ h5 o5 hw5;clear hg4 hown4 hbel4 hgr4 hat4 h5 o5 hw5 HO1))
 go_upto_region 1 with fail;clear k8 f8;generalize w4.setCell ⟨tb,8,none⟩ (.slice (some ⟨g4,0,none⟩) (t.sn+1) cap4)=w5 at H5 O5 HW5⊢;have hdr:uR w5 w5.drew:=(qC _ _).drew;obtain⟨HD,HWD,OD⟩:=uJ (H5.s.calm hdr) (bI HW5.s hdr) (O5.s.trans (Only.of_below hdr (λx h1 h2=>by omega:∀x,x<w5.heap.size->w5.heap.size<=x->False)) λx _ e=>e.elim);clear hdr H5 HW5 O5;obtain⟨v5,fs5,c10,f10,hv5,hfl5,_,hpush⟩:=RW.frames (show RW w5.drew c y S K base ow1 from HD.s.pw);obtain⟨vA5,vc5,rfl,_⟩:=bE hv5;have hlen5:fs5.length=L:=by rw[HL.s,<-hfl5,qQ]
 rw[hlen5]at c10 hv5 hpush;have hpl:PutL wb y.hb (.slice vA5 L vc5) w5.drew:=⟨HD.s.wk.cell 0,c10⟩;have r0:∀m:zAl (PutL wb y.hb (.slice vA5 L vc5)),m.W.cell? ⟨wb,0,none⟩=some (.pointer (some ⟨y.hb,0,none⟩)):=λm=>m.h.1
 have r10:∀m:zAl (PutL wb y.hb (.slice vA5 L vc5)),m.W.cell? ⟨y.hb,10,none⟩=some (.slice vA5 L vc5):=λm=>m.h.2
 have hlt:wb<w5.drew.heap.size/\y.hb<w5.drew.heap.size:=⟨HD.s.wk.lt,by obtain⟨_,hb⟩:=RW.land (show RW w5.drew c y S K base ow1 from HD.s.pw);exact hb.lt⟩;have hne2:(Value.slice vA5 L vc5).ownBlock≠some wb/\(Value.slice vA5 L vc5).ownBlock≠some y.hb:=⟨bC hv5 HD.s.wk (by decide),by obtain⟨_,hb⟩:=RW.land (show RW w5.drew c y S K base ow1 from HD.s.pw);exact bC hv5 hb (by decide)⟩;obtain⟨HPL,HPU,HV5,HLT⟩:=uK hpl hpush hv5 (And.intro hlt hne2);haveI hne:Nonempty (zAl (PutL wb y.hb (.slice vA5 L vc5))):=⟨⟨_,hpl⟩⟩;clear c10 hv5 hfl5 hpush hpl hlt hne2;refine zJz (C:=λw'=>∃m:zAl (PutL wb y.hb (.slice vA5 L vc5)),w'=m.W) [0,1,2,3,4,5,6,7] [8,9,10,11,12] 13 [] (by kernel_rfl) (by kernel_rfl) (by intro c a d v w h;cases d<;>exact h) ⟨⟨_,HPL.s⟩,rfl⟩ ?_;simp only[bB,qJ,qO,qD,qE]
 repeat(go_big_quiet_step (fail))
 refine qF ?_;simp only[fJ];generalize w5.drew=wd at HD HWD OD HPL HPU HV5 HLT f10⊢;clear r0 r10;go_wp2_with fail;refine⟨⟨⟨_,HPL.s⟩,rfl⟩,?_⟩;go_wp2_with fail;refine⟨⟨⟨_,((World.cell?_alloc_lt _ _ _ HLT.s.1.1).trans HPL.s.1),((World.cell?_alloc_lt _ _ _ HLT.s.1.2).trans HPL.s.2)⟩,rfl⟩,?_⟩;have HMQ2:=uT (show(L+1)*48<=140737488355328 by omega);have hsz2:base<=wd.heap.size:=RW.bw (show RW wd c y S K base ow1 from HD.s.pw);go_wp2_with(first
  |(at_builtin;(refine bF wd rfl (.tmp 27) (.tmp 32) _ rfl base 146 iS _ 5 48 underlying90 hiS hzS hsS hyS rfl (by omega) (by omega) _ L _ HV5.s rfl _ 1 _ rfl rfl rfl (by simp[Value.oneCell']) HMQ2.s hsz2 ?_);intro g6 cap6 w6 hg6 hown6 hbel6 hgr6 hat6))
 have hon:Only (λk=>(Value.slice vA5 L vc5).ownBlock=some k) wd w6:=(Only.refl _ wd).grown hgr6 (λg hg _=>hg);obtain⟨v9,hb9⟩:=RW.land (show RW wd c y S K base ow1 from HD.s.pw);have hv9:v9= .slice vA5 L vc5:=by have h1:wd.cell? ⟨y.hb,10,none⟩=some v9:=hb9.cell 10;rw[HPL.s.2]at h1;injection h1 with h1;exact h1.symm
 have hb6:=hb9.only hon HLT.s.2.2;rw[hv9]at hb6;have c6:w6.cell? ⟨y.hb,10,none⟩=some (.slice vA5 L vc5):=hb6.cell 10;have f6:w6.frozen? ⟨y.hb,10,none⟩=false:=hb6.frozen 10;have p6:PutL wb y.hb (.slice vA5 L vc5) w6:=⟨(HD.s.wk.only hon HLT.s.2.1).cell 0,c6⟩;obtain⟨ow2,hp2,hk2⟩:=HPU.s HLS.s ⟨⟨fr,to_,data⟩,A,n,cc,false,false⟩ w6 (.slice (some ⟨g6,0,none⟩) (L+1) cap6) hgr6 hown6 (by
  rcases hat6 with e|e
  ·exact .inl (by rw[<-e];rfl)
  ·exact .inr ⟨g6,rfl,by omega⟩) rfl rfl (dU HWD.s hB0) HOF.s
 have hfin:=HD.s.turn hp2 hk2;obtain⟨HFIN,HP6⟩:=uI (show zQy (RT c y K base) base w S ow tb wb 64 y.hb t ⟨fr,to_,data⟩ W ow1 (.returned (.tuple #[])) (w6.setCell ⟨y.hb,10,none⟩ (.slice (some ⟨g6,0,none⟩) (L+1) cap6))from⟨rfl,_,ow2,hfin,by dsimp only;rw[HL.s,HDL.s],⟨rfl,rfl,rfl⟩,⟨rfl,rfl,rfl⟩,((Only.of_below (D:=λk=>ow1 k≠ .no\/k=tb\/(Value.slice t.sA t.sn t.sc).ownBlock=some k) HB1.s λx h1 h2=>absurd h2 (by omega)).trans OD.s λx _ e=>Or.inr e).trans hk2.only (λx _ e=>Or.inl e),λk hk=>hk2.old k (jQ hk (qN HB1.s.size OD.s.size))⟩) p6;clear hg6 hown6 hbel6 hgr6 hat6 hon hb9 hv9 hb6 p6 hp2 hk2 hfin;refine⟨⟨⟨_,HP6.s⟩,rfl⟩,?_⟩;go_wp2_with fail;refine⟨⟨⟨_,HP6.s⟩,rfl⟩,?_⟩;go_wp2_with fail;refine⟨⟨⟨_,HP6.s⟩,rfl⟩,?_⟩;go_wp2_with fail
 go_end0
 exact HFIN.s
end
end Go.Proofs.YtbolcebmbpepdaaGreatDoor
