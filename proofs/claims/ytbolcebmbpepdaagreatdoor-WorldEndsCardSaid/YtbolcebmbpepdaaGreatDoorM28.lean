/- Contracts. Conditions: those each states. -/
import Derived.Test.YtbolcebmbpepdaaGreatDoorM27
namespace Go.Proofs.YtbolcebmbpepdaaGreatDoor
set_option maxRecDepth 100000
set_option maxHeartbeats 8000000
set_option linter.all false
open Go.RowKit Tryz
structure PlAt(w:World)(W:World)(c:Cfg)(y:Lay)(S:WS)(K base:Nat)(ow:Nat->Tag)(v:Value)(outs:List Tol):Prop where
 pw:PW W c y S K base ow
 bel:uR w W
 lo:w.heap.size<=base
 out:OutT W base v outs
 vn:∀k,v.ownBlock=some k->ow k= .no
 tn:∀t∈outs,TolNo t ow
section
variable {w W W':World}{c:Cfg}{y:Lay}{S S':WS}{K K' base:Nat}{ow ow':Nat->Tag}{v:Value}{outs:List Tol}
theorem PlAt.calm(h:PlAt w W c y S K base ow v outs)(hb:uR W W'):PlAt w W' c y S K base ow v outs:=
 ⟨h.pw.calm hb,h.bel.trans (hb.mono h.bel.size),h.lo,h.out.below hb,h.vn,h.tn⟩
theorem PlAt.turn(h:PlAt w W c y S K base ow v outs)(hp:PW W' c y S' K' base ow')(hk:Kept W W' ow ow'):PlAt w W' c y S' K' base ow' v outs:=by refine⟨hp,h.bel.trans ((hk.below h.pw).mono h.lo),h.lo,⟨hk.own h.out.1 h.vn,λt ht=> ?_⟩,λk hk2=>(hk.old k (h.out.1.lt k hk2).2).trans (h.vn k hk2),λt ht=>(h.tn t ht).turn (h.out.2 t ht) hk⟩;exact⟨hk.own (h.out.2 t ht).so (h.tn t ht _ (.inl rfl)),hk.own (h.out.2 t ht).fo (h.tn t ht _ (.inr (.inl rfl))),hk.own (h.out.2 t ht).ro (h.tn t ht _ (.inr (.inr rfl)))⟩
theorem PlAt.push{g cap:Nat}{t:Tol}{B:Nat}(h:PlAt w W c y S K base ow v outs)(hg:W.grownBy W' v.ownBlock)(hown:W'.ownsRow base 57 11 (.slice (some ⟨g,0,none⟩) (outs.length+1) cap) (outs.length+1) (outs.flatMap Tol.cells++t.cells))(hat:some g=v.ownBlock\/W.heap.size<=g)(hto:TolOwn t W B)(hB:base<=B)(htn:TolNo t ow):PlAt w W' c y S K base ow (.slice (some ⟨g,0,none⟩) (outs.length+1) cap) (outs++[t]):=by
 have ho:Only (λk=>v.ownBlock=some k) W W':=(Only.refl _ _).grown hg (λg hg _=>hg);have hp:=h.pw.far ho (λk _ hk=>h.vn k hk) (λk hk hk2=>by have:=(h.out.1.lt k hk2).1;omega);refine⟨hp,h.bel.trans ((ho.to_below (λx hx _ hd=>by have:=(h.out.1.lt x hd).1;omega) h.pw.bw).mono h.lo),h.lo,h.out.push (hto.mono hB) hg hown,λk hk=> ?_,λx hx=> ?_⟩
 ·have:k=g:=by simpa[Value.ownBlock]using hk.symm
  subst this;rcases hat with e|e
  ·exact h.vn k e.symm
  ·exact h.pw.fresh k e
 ·rcases jI.1 hx with hx|hx
  ·exact h.tn x hx
  ·rw[jJ]at hx;subst hx;exact htn
end
theorem zUo(c:Cfg)(S:WS)(l:List StpI)(k:Nat)(s:StpI)(h:l[k]? =some s):zAh c (l.take (k+1)) S=((zAh c (l.take k) S).1++[(stepW c (zAh c (l.take k) S).2 s).1],(stepW c (zAh c (l.take k) S).2 s).2):=by rw[dB l k s h,zVg]
theorem zLd{c:Cfg}(hf:bG c=true):∀(l:List StpI) (S:WS) (K:Nat),S.ok c K->(zAh c l S).2.ok c (K+l.length)
 |[],S,K,h=>h
 |s::l,S,K,h=>by have:=zLd hf l _ (K+1) (step_ok h hf s);rw[jG,Nat.add_comm l.length 1,<-Nat.add_assoc];exact this
def zLr(s:StpI):Prop:=(Lit.int .i64 s.id).wf=true
def yFs(w:World)(c:Cfg)(ss:List StpI)(e:Ending)(w':World):Prop:=
 (bG c=false/\e= .returned (.tuple #[.slice none 0 0,.pointer none,.int .i64 4])/\uR w w')\/
 (bG c=true/\300<ss.length/\e= .returned (.tuple #[.slice none 0 0,.pointer none,.int .i64 1])/\uR w w')\/
 (bG c=true/\ss.length<=300/\∃(v:Value) (outs:List Tol) (y:Lay) (K base:Nat) (ow:Nat->Tag),e= .returned (.tuple #[v,.pointer (some ⟨y.hb,0,none⟩),.int .i64 0])/\outs.map (·.d)=(zAh c ss (WS.new c)).1/\PlAt w w' c y (zAh c ss (WS.new c)).2 K base ow v outs)
section
variable {w:World}{c:Cfg}
theorem play_any(A:Option Addr)(n cc:Nat)(ss:List StpI)(B:Nat)(hl:ss.length=n)(hm:n<=maxLen)(hr:Reads w B 8 A n (ss.flatMap StpI.cells))(hwf:∀s∈ss,zLr s)(hc:c.ok w B)(hB:B<=w.heap.size)(hT:OrdT w)(hg:0<w.heap.size):Calls prog 22 #[c.val,.slice A n cc] w (yFs w c ss):=by
 obtain⟨cb,hcb⟩:=kB w.heap.size;obtain⟨wx,hwx⟩:=kB (w.alloc (.cells c.cells.toArray 24));have hbx:=uH hwx;have kc:Blk wx cb 24 c.cells.toArray:=by rw[hwx,hcb];exact Blk.new _ _ _
 obtain⟨HMY,HBG⟩:=uI (λW (hW:uR w W)=>zCh c B W (hc.below (hW.mono hB)) (qN hB hW.size)) (λW (hW:uR w W) (hf:bG c=true)=>yHj ((hc.below (hW.mono hB)).more (qN hB hW.size)) hf);obtain⟨it,hit,ht0,ht1,ht2⟩:=yHr;have d0:wx.cell? ⟨cb,0,none⟩=some (.int .i64 c.br):=kc.cell 0;have d1:wx.cell? ⟨cb,1,none⟩=some (.slice c.la.A c.la.n c.la.c):=kc.cell 1;have d2:wx.cell? ⟨cb,2,none⟩=some (.int .i64 c.tk):=kc.cell 2;have d3:wx.cell? ⟨cb,3,none⟩=some (.slice c.mi.A c.mi.n c.mi.c):=kc.cell 3;have d4:wx.cell? ⟨cb,4,none⟩=some (.int .i64 c.cap):=kc.cell 4;obtain⟨HBX,HKC,HCB,HWX,HL,HR,HWF,HT,HB,HGG⟩:=uQ hbx kc hcb hwx hl hr hwf hT hB hg;unfold maxLen at hm;unfold Cfg.val at HMY HBG⊢;clear hbx kc hcb hwx hl hr hwf hT hc hB hg;go_enter func22,ntmps22;go_upto_region 1 with fail;rw[zRc c,<-HWX.s,<-HCB.s];cases hcf:bG c with
 |false=>have HCF:=uT hcf;have hmy:=HMY.s wx HBX.s;rw[hcf]at hmy;clear hcf;go_wp2_with fail;refine hmy.mono ?_;rintro _ w2 ⟨rfl,hb2⟩;have HB2:=uT hb2;clear hb2 hmy;go_wp2_with fail;go_ret3;exact .inl ⟨HCF.s,rfl,HBX.s.trans (HB2.s.mono HBX.s.size)⟩
 |true=>
  have HCF:=uT hcf;have hmy:=HMY.s wx HBX.s;rw[hcf]at hmy;clear hcf;go_wp2_with fail;refine hmy.mono ?_;rintro _ w2 ⟨rfl,hb2⟩;have hx2:=HBX.s.trans (hb2.mono HBX.s.size);have HX2:=uT hx2;have kc2:=HKC.s.below hb2 HKC.s.lt;have e0:w2.cell? ⟨cb,0,none⟩=some (.int .i64 c.br):=kc2.cell 0;have e1:w2.cell? ⟨cb,1,none⟩=some (.slice c.la.A c.la.n c.la.c):=kc2.cell 1;have e2:w2.cell? ⟨cb,2,none⟩=some (.int .i64 c.tk):=kc2.cell 2;have e3:w2.cell? ⟨cb,3,none⟩=some (.slice c.mi.A c.mi.n c.mi.c):=kc2.cell 3;have e4:w2.cell? ⟨cb,4,none⟩=some (.int .i64 c.cap):=kc2.cell 4;clear hb2 hmy d0 d1 d2 d3 d4 hx2 kc2;by_cases h300:300<n
  ·have hgt:decide ((n:Int)>300)=true:=by simp;omega
   go_wp2_with fail;go_ret3;exact .inr (.inl ⟨HCF.s,by rw[HL.s];exact h300,rfl,HX2.s⟩)
  ·have hgt:decide ((n:Int)>300)=false:=by simp;omega
   have hn300:n<=300:=by omega
   have HBN:=uT (HBG.s w2 HX2.s HCF.s);go_wp2_with fail;refine HBN.s.mono ?_;rintro _ w3 ⟨y,ow,rfl,hp3,hb3⟩;obtain⟨HP0,HOG⟩:=uI (show PlAt w w3 c y (zAh c (ss.take 0) (WS.new c)).2 0 w2.heap.size ow (.slice none 0 0) []from⟨hp3,HX2.s.trans (hb3.mono HX2.s.size),HX2.s.size,OutT.nil _ _,λk hk=>(by cases hk),λt ht=>(by cases ht)⟩) (show 0<w2.heap.size from jQ HGG.s HX2.s.size);obtain⟨base,hbase⟩:=kB w2.heap.size;rw[<-hbase]at HP0 HOG;clear hp3 hb3 e0 e1 e2 e3 e4 hbase HBN;go_wp2_with fail
   go_loopw [8,21] (λv i wr=>∃(k:Nat) (outs:List Tol) (K:Nat) (ow:Nat->Tag),k<=n/\K<=k/\i= .int .i64 k/\uS (PlAt w wr c y (zAh c (ss.take k) (WS.new c)).2 K base ow v outs)/\uS (outs.map (·.d)=(zAh c (ss.take k) (WS.new c)).1)) (λ_ i _=>n-(intOf i).toNat)
   case atStart=>exact⟨0,[],0,ow,qL _,qA _,rfl,HP0,uT rfl⟩
   case round=>
    obtain⟨k,outs,K,ow,hk,hKk,rfl,HA,HD⟩:=hrel;by_cases hlt:k<n
    ·have hlt':(k:Int)<(n:Int):=by omega
     obtain⟨bt,ot,s,rfl,hbt,hs,hct⟩:=fB StpI.cells_len (by omega) ((HR.s.below (HA.s.bel.mono HB.s))) hlt HL.s;have z0:wr.cell? ⟨bt,ot+k*8,none⟩=some (.int .i64 s.kind):=hct 0 _ rfl;have z1:wr.cell? ⟨bt,ot+k*8+1,none⟩=some (.int .i64 s.who):=hct 1 _ rfl;have z2:wr.cell? ⟨bt,ot+k*8+2,none⟩=some (.int .i64 s.item):=hct 2 _ rfl;have z3:wr.cell? ⟨bt,ot+k*8+3,none⟩=some (.int .i64 s.count):=hct 3 _ rfl;have z4:wr.cell? ⟨bt,ot+k*8+4,none⟩=some (.int .i64 s.life):=hct 4 _ rfl;have z5:wr.cell? ⟨bt,ot+k*8+5,none⟩=some (.int .i64 s.id):=hct 5 _ rfl;have z6:wr.cell? ⟨bt,ot+k*8+6,none⟩=some (.int .i64 s.label):=hct 6 _ rfl;have z7:wr.cell? ⟨bt,ot+k*8+7,none⟩=some (.int .i64 s.key):=hct 7 _ rfl;obtain⟨w4,hw4⟩:=kB (wr.alloc (.cells #[.int .i64 s.kind,.int .i64 s.who,.int .i64 s.item,.int .i64 s.count,.int .i64 s.life,.int .i64 s.id,.int .i64 s.label,.int .i64 s.key] 48));obtain⟨sb,hsb⟩:=kB wr.heap.size;have hb4:=uH hw4;have k4:Blk w4 sb 48 #[.int .i64 s.kind,.int .i64 s.who,.int .i64 s.item,.int .i64 s.count,.int .i64 s.life,.int .i64 s.id,.int .i64 s.label,.int .i64 s.key]:=by rw[hw4,hsb];exact Blk.new _ _ _
     have h4:=HA.s.calm hb4;have hSok:=zLd HCF.s (ss.take k) (WS.new c) 0 (zLh HCF.s);have htl:0+(ss.take k).length<=k:=by rw[qY];omega
     have hO4:OrdT w4:=λj hj=>(h4.bel.cell (p:=⟨_,j,none⟩) HGG.s).trans (HT.s j hj)
     have HST:=uT (step_any h4.pw (0+(ss.take k).length) hSok (by omega) (by omega) hO4 HOG.s s (HWF.s s (qB hs)));unfold StpI.val at HST;obtain⟨HRT,H4,HW4,HSB⟩:=uK (zUo c (WS.new c) ss k s hs) h4 hw4 hsb;have x0:w4.cell? ⟨sb,0,none⟩=some (.int .i64 s.kind):=k4.cell 0;have x1:w4.cell? ⟨sb,1,none⟩=some (.int .i64 s.who):=k4.cell 1;have x2:w4.cell? ⟨sb,2,none⟩=some (.int .i64 s.item):=k4.cell 2;have x3:w4.cell? ⟨sb,3,none⟩=some (.int .i64 s.count):=k4.cell 3;have x4:w4.cell? ⟨sb,4,none⟩=some (.int .i64 s.life):=k4.cell 4;have x5:w4.cell? ⟨sb,5,none⟩=some (.int .i64 s.id):=k4.cell 5;have x6:w4.cell? ⟨sb,6,none⟩=some (.int .i64 s.label):=k4.cell 6;have x7:w4.cell? ⟨sb,7,none⟩=some (.int .i64 s.key):=k4.cell 7;clear hw4 hsb hb4 k4 h4 hSok htl hO4 hs hct hbt;go_upto_region 10 with fail;rw[<-HW4.s,<-HSB.s];clear z0 z1 z2 z3 z4 z5 z6 z7;go_wp2_with fail;refine HST.s.mono ?_;rintro _ w5 ⟨t,rfl,hd,hto,ow5,hp5,hk5,hn5⟩;have h5:=H4.s.turn hp5 hk5;have hszw:base<=w4.heap.size:=H4.s.pw.bw;obtain⟨HTO,HTN,HTD,HBS⟩:=uK hto hn5 hd hszw;obtain⟨vA,vc,hv,_⟩:=bE h5.out.1;subst hv;obtain⟨ol,hol⟩:=kB outs.length;have holk:ol<=300:=by have e:=congrArg List.length HD.s;rw[qQ,zXg,qY]at e;omega
     have HOL:=uT hol;rw[<-hol]at h5⊢;have H5:=uT h5;have hown5:=h5.out.1;rw[<-hol]at hown5;have HOWN:=uT hown5;clear hown5;have HMQ:=uT (show(ol+1)*136<=140737488355328 by omega);have hsz5:base<=w5.heap.size:=h5.pw.bw;unfold Tol.val;clear hp5 hk5 hto hn5 hd h5 hszw hol x0 x1 x2 x3 x4 x5 x6 x7;go_wp2_with(first
      |(at_builtin;(refine bF w5 rfl (.tmp 25) (.tmp 29) _ rfl base 57 it _ 11 136 underlying26 hit ht0 ht1 ht2 rfl (by omega) (by omega) _ ol _ HOWN.s rfl _ 1 _ rfl rfl rfl (by simp[Value.oneCell']) HMQ.s hsz5 ?_);intro g7 cap7 w7 hg7 hown7 hbel7 hgr7 hat7
        have h7:=H5.s.push (t:=t) (g:=g7) (cap:=cap7) hgr7 (by rw[<-HOL.s];exact hown7) (by
         rcases hat7 with e|e
         ·exact .inl e
         ·exact .inr (by omega)) HTO.s HBS.s HTN.s
        rw[<-HOL.s]at h7;have H7:=uT h7;clear h7 hg7 hown7 hbel7 hgr7 hat7))
     go_roundw
     case rel=>exact⟨k+1,outs++[t],K+1,ow5,by omega,by omega,by go_num,by rw[HRT.s];exact H7,by rw[HRT.s,jA,HD.s,List.map_singleton,HTD.s];exact uT rfl⟩
     case measure=>simp[intOf];omega
    ·obtain rfl:k=n:=by omega
     have HF:=uT (show ss.take k=ss from qS (by rw[HL.s];exact qA _));go_wp2_with fail;go_ret3;rw[HF.s]at HA HD;exact .inr (.inr ⟨HCF.s,by rw[HL.s];omega,_,outs,y,K,base,ow,rfl,HD.s,HA.s⟩)
end
structure StIn(c:Cfg)(K:Nat)(S:WS):Prop where
 ok:S.ok c K
 good:GoodW c K S
 lts:zNt S
theorem StIn.step{c:Cfg}{K:Nat}{S:WS}(hcf:bG c=true)(h:StIn c K S)(s:StpI):StIn c (K+1) (stepW c S s).2:=
 ⟨step_ok h.ok hcf s,by have:=yGj h.good (by omega) h.ok hcf s;exact_mod_cast this,(yDk hcf h.lts s).1⟩
theorem StIn.run{c:Cfg}(hcf:bG c=true):∀(l:List StpI) (S:WS) (K:Nat),StIn c K S->StIn c (K+l.length) (zAh c l S).2
 |[],_,_,h=>h
 |s::l,S,K,h=>by have:=StIn.run hcf l _ (K+1) (h.step hcf s);rw[jG,Nat.add_comm l.length 1,<-Nat.add_assoc];exact this
theorem StIn.new{c:Cfg}(hcf:bG c=true):StIn c 0 (WS.new c):=⟨zLh hcf,by exact_mod_cast new_good,λp hp=>(by cases hp)⟩
section
variable {w:World}{c:Cfg}{y:fD}{S:WS}{K base:Nat}{ow:Nat->Tag}
theorem land_any(h:RW w c y S K base ow)(hI:StIn c K S)(hK:K<1000)(s:StpI)(hwf:zLr s):Calls prog 25 #[.pointer (some ⟨y.hb,0,none⟩),s.val] w (StepR w c y (K+1) base ow (stepW c S s)):=by
 have hbr:=(bK h.may).1.1;by_cases h1:s.kind<1\/11<s.kind
 ·exact yGv h K hI.ok (by omega) hK s h1
 by_cases h9:s.kind=9
 ·exact yGb h K hI.ok (by omega) hK s hI.good.lost h9
 by_cases h10:s.kind=10\/s.kind=11
 ·exact yFf h K hI.ok hI.good hI.lts (by omega) hK s hwf h10
 by_cases hb:s.who<0\/c.br<=s.who
 ·exact land_who h K hI.ok (by omega) hK s (by omega) hb
 obtain⟨i,hi⟩:=qP (show 0<=s.who by omega);by_cases h7:s.kind=7\/s.kind=8
 ·exact yDa h K hI.ok (by omega) hK s i (by omega) hi h7
 ·exact yFq h K hI.ok (by omega) hK s i (by omega) hi (by omega)
end
def tyE:Nat->TypeId
 |0=>96
 |_=>22
def tyB:Nat->TypeId
 |0=>99
 |_=>3
def rkZ(m:Nat):Array Value:=madeCells #[.int .i64 0,.int .i64 0,.slice none 0 0,.slice none 0 0] (m*4)
def celB(m:Nat):Nat->Array Value
 |0=>rkZ m
 |_=>madeCells #[.int .i64 0] m
def zEx(i:Nat):Nat->Tag
 |0=> .sh i
 |1=> .ask i
 |_=> .gn i
theorem zIq(i q:Nat):zEx i q≠ .no/\zEx i q≠ .off:=by
 match q with
 |0=>exact⟨by simp[zEx],by simp[zEx]⟩
 |1=>exact⟨by simp[zEx],by simp[zEx]⟩
 |_+2=>exact⟨by simp[zEx],by simp[zEx]⟩
def lgC(c:Cfg)(y:fD)(v:Nat->Value)(vK:Value):Array Value:=#[.int .i64 c.br,.slice c.la.A c.la.n c.la.c,.int .i64 c.tk,.slice c.mi.A c.mi.n c.mi.c,.int .i64 c.cap,v 0,v 1,v 2,.pointer (some ⟨y.sb,0,none⟩),vK,.slice none 0 0]
theorem rkZ_has(m k:Nat)(hk:k<m):Has (rkZ m) (k*4) (Rk.new.cells (.slice none 0 0) (.slice none 0 0)):=by
 intro j u hj;have hjl:j<4:=(qK.1 hj).1;unfold rkZ;rw[zIv _ _ _ (by simp) (by omega)];rw[show(k*4+j)%(#[Value.int .i64 0,.int .i64 0,.slice none 0 0,.slice none 0 0]:Array Value).size=j by show(k*4+j)%4=j;omega];obtain h|h|h|h:j=0\/j=1\/j=2\/j=3:=by omega
 all_goals
  subst h;exact hj
theorem yCj{W:World}{g m q:Nat}(hq:q=1\/q=2)(h:Blk W g (tyB q) (celB m q)):IRow W g (List.replicate m 0) []:=by
 unfold IRow;have e:((List.replicate m (0:Int)).map (Value.int .i64)++[]).toArray=madeCells #[Value.int .i64 0] m:=by rw[<-uD];simp[toList_madeCells_one]
 rw[e];rcases hq with rfl|rfl<;>exact h
structure LG(W:World)(c:Cfg)(y:fD)(B:Nat)(n:Nat->Nat)(f:Nat->Nat->Nat)(v:Nat->Value)(nk:Nat)(vK:Value)(ow:Nat->Tag):Prop where
 blk:Blk W y.hb 92 (lgC c y v vK)
 o:∀q,q<3->W.ownsRow B (tyE q) 1 (v q) (n q) ((List.range (n q)).map λi=>zEc c.m (f q i))
 oK:W.ownsRow B 93 1 vK nk ((List.range nk).map λj=>Value.pointer (some ⟨y.bg j,0,none⟩))
 rows:∀q i,q<3->i<n q->Blk W (f q i) (tyB q) (celB c.m q)/\ow (f q i)=zEx i q
 bk:∀j,j<nk->BrRow W B (y.bg j) c.n c.cap c.tk (zCr (BkS.new c.n) (c.mi.zs.getD j 0)) (λk=>ow k= .bk j)
 shv:ShvRow W B c y (λ_=>List.replicate c.ln []) 0 (λk=>ow k= .str 0)
 oh:ow y.hb= .off
 nv:∀q,q<3->∀k,(v q).ownBlock=some k->ow k= .no
 nK:∀k,vK.ownBlock=some k->ow k= .no
 ne:∀k,(v 1).ownBlock=some k->(v 2).ownBlock≠some k
 low:∀k,ow k≠ .no->B<=k
 fresh:∀k,W.heap.size<=k->ow k= .no
section
variable {W W':World}{c:Cfg}{y:fD}{B nk:Nat}{n:Nat->Nat}{f:Nat->Nat->Nat}{v:Nat->Value}{vK:Value}{ow ow':Nat->Tag}{D:Nat->Prop}
theorem LG.vne(h:LG W c y B n f v nk vK ow){r q:Nat}(hr:r<3)(hq:q<3)(hrq:r≠q){k:Nat}(hk:(v r).ownBlock=some k):(v q).ownBlock≠some k:=by
 have key:∀{a b:Nat},a<3->b<3->tyE a≠tyE b->(v a).ownBlock=some k->(v b).ownBlock≠some k:=λha hb ht h1 h2=>by
  rcases dV (h.o _ ha) (h.o _ hb) ht with e1|e1
  ·rw[e1]at h1;cases h1
  ·exact e1 (by rw[h1,h2])
 obtain h0|h0|h0:r=0\/r=1\/r=2:=by omega
 all_goals
  obtain h1|h1|h1:q=0\/q=1\/q=2:=by omega
  all_goals
   subst h0 h1
   first
    |exact absurd rfl hrq
    |exact key (by omega) (by omega) (by decide) hk
    |exact h.ne k hk
    |exact λe=>h.ne k e hk
theorem zJe(q:Nat):tyE q≠92/\tyE q≠93/\tyE q≠tyB q/\93≠tyB q:=by
 match q with
 |0=>exact⟨by decide,by decide,by decide,by decide⟩
 |_+1=>exact⟨by show(22:TypeId)≠_;decide,by show(22:TypeId)≠_;decide,by show(22:TypeId)≠3;decide,by show(93:TypeId)≠3;decide⟩
theorem LG.keep(h:LG W c y B n f v nk vK ow)(ho:Only D W W')(hD:∀k,k<W.heap.size->D k->ow k= .no\/k=y.hb)(hw:∀k,k<W.heap.size->ow' k=ow k):(∀q i,q<3->i<n q->Blk W' (f q i) (tyB q) (celB c.m q)/\ow' (f q i)=zEx i q)/\(∀j,j<nk->BrRow W' B (y.bg j) c.n c.cap c.tk (zCr (BkS.new c.n) (c.mi.zs.getD j 0)) λk=>ow' k= .bk j)/\ShvRow W' B c y (λ_=>List.replicate c.ln []) 0 (λk=>ow' k= .str 0):=by
 have key:∀t:Tag,t≠ .no->t≠ .off->(∀k,k<W.heap.size->ow k=t->¬ D k)/\∀k,k<W.heap.size->ow k=t->ow' k=t:=λt h1 h2=>⟨λk hk he hd=>by
  rcases hD k hk hd with e|e
  ·exact h1 (he.symm.trans e)
  ·rw[e,h.oh]at he;exact h2 he.symm,λk hk he=>(hw k hk).trans he⟩
 refine⟨λq i hq hi=> ?_,λj hj=>(h.bk j hj).only ho (key _ (by simp) (by simp)).1 (key _ (by simp) (by simp)).2,h.shv.only ho (key _ (by simp) (by simp)).1 (key _ (by simp) (by simp)).2⟩;obtain⟨h1,h2⟩:=h.rows q i hq hi;exact⟨h1.only ho ((key _ (zIq i q).1 (zIq i q).2).1 _ h1.lt h2),(key _ (zIq i q).1 (zIq i q).2).2 _ h1.lt h2⟩
theorem LG.calm(h:LG W c y B n f v nk vK ow)(hb:uR W W'):LG W' c y B n f v nk vK ow:=by have ho:Only (λ_=>False) W W':=Only.of_below hb (λx h1 h2=>by omega);obtain⟨k1,k2,k3⟩:=h.keep (ow':=ow) ho (λk _ e=>e.elim) (λ_ _=>rfl);exact⟨h.blk.only ho (λe=>e),λq hq=>bL (h.o q hq) ho (λ_ _ e=>e),bL h.oK ho (λ_ _ e=>e),k1,k2,k3,h.oh,h.nv,h.nK,h.ne,h.low,λk hk=>h.fresh k (qN ho.size hk)⟩
theorem LG.row(h:LG W c y B n f v nk vK ow){q:Nat}(hq:q<3){g:Nat}{v':Value}(ho:Only (λk=>k=y.hb\/(v q).ownBlock=some k) W W')(hg:Blk W' g (tyB q) (celB c.m q))(hgl:W.heap.size<=g)(hblk:Blk W' y.hb 92 (lgC c y (bN v q v') vK))(hoq:W'.ownsRow B (tyE q) 1 v' (n q+1) ((List.range (n q)).map (λi=>zEc c.m (f q i))++[zEc c.m g]))(hat:∀k,v'.ownBlock=some k->(v q).ownBlock=some k\/W.heap.size<=k)(hBW:B<=W.heap.size):LG W' c y B (bN n q (n q+1)) (λr=>if r=q then bN (f q) (n q) g else f r) (bN v q v') nk vK (λk=>if k<W.heap.size then ow k else if k=g then zEx (n q) q else .no):=by
 have hw:∀k,k<W.heap.size->(λk=>if k<W.heap.size then ow k else if k=g then zEx (n q) q else .no) k=ow k:=λk hk=>if_pos hk
 have hnew:∀k,W.heap.size<=k->(λk=>if k<W.heap.size then ow k else if k=g then zEx (n q) q else .no) k=if k=g then zEx (n q) q else .no:=λk hk=>if_neg (Nat.not_lt.2 hk)
 have hD:∀k,k<W.heap.size->(k=y.hb\/(v q).ownBlock=some k)->ow k= .no\/k=y.hb:=λk _ hd=>by
  rcases hd with e|e
  ·exact .inr e
  ·exact .inl (h.nv q hq k e)
 obtain⟨k1,k2,k3⟩:=h.keep (ow':=λk=>if k<W.heap.size then ow k else if k=g then zEx (n q) q else .no) ho hD hw;have hsz:=ho.size;refine⟨hblk,λr hr=> ?_,bL h.oK ho (λk hk hd=> ?_),λr i hr hi=> ?_,k2,k3,(hw _ h.blk.lt).trans h.oh,λr hr k hk=> ?_,λk hk=>(hw _ (h.oK.lt k hk).2).trans (h.nK k hk),λk hk=> ?_,λk hk=> ?_,λk hk=> ?_⟩
 ·by_cases e:r=q
  ·subst e;simp only[dD,if_true];exact(congrArg (λxs=>W'.ownsRow B (tyE r) 1 v' (n r+1) xs) (zFl (f r) (λz:Nat=>zEc c.m z) (n r) g)).mpr hoq
  ·simp only[cQ _ _ e,if_neg e];refine bL (h.o r hr) ho (λk hk hd=> ?_);rcases hd with rfl|e2
   ·exact bC (h.o r hr) h.blk (zJe r).1 hk
   ·exact h.vne hr hq e hk e2
 ·rcases hd with rfl|e2
  ·exact bC h.oK h.blk (by decide) hk
  ·rcases dV h.oK (h.o q hq) (zJe q).2.1.symm with e1|e1
   ·rw[e1]at hk;cases hk
   ·exact e1 (by rw[hk,e2])
 ·by_cases e:r=q
  ·subst e;simp only[if_true];rw[dD]at hi;by_cases e2:i=n r
   ·subst e2;rw[dD];exact⟨hg,(hnew g hgl).trans (if_pos rfl)⟩
   ·rw[cQ _ _ e2];exact k1 r i hr (by omega)
  ·rw[cQ _ _ e]at hi;simp only[if_neg e];exact k1 r i hr hi
 ·by_cases e:r=q
  ·subst e;rw[dD]at hk;rcases hat k hk with e1|e1
   ·exact(hw k ((h.o r hr).lt k e1).2).trans (h.nv r hr k e1)
   ·exact(hnew k e1).trans (if_neg λe2=>bC hoq hg (zJe r).2.2.1 (by rw[hk,e2]))
  ·rw[cQ _ _ e]at hk;exact(hw k ((h.o r hr).lt k hk).2).trans (h.nv r hr k hk)
 ·by_cases e1:q=1
  ·subst e1;rw[dD]at hk;rw[cQ _ _ (by decide)];rcases hat k hk with e|e
   ·exact h.ne k e
   ·exact λe2=>by have:=((h.o 2 (by omega)).lt k e2).2;omega
  ·rw[cQ _ _ (Ne.symm e1)]at hk;by_cases e2:q=2
   ·subst e2;rw[dD];intro e3;rcases hat k e3 with e|e
    ·exact h.ne k hk e
    ·have:=((h.o 1 (by omega)).lt k hk).2;omega
   ·rw[cQ _ _ (Ne.symm e2)];exact h.ne k hk
 ·by_cases hlt:k<W.heap.size
  ·exact h.low k (by rw[<-hw k hlt];exact hk)
  ·omega
 ·have h1:=hg.lt;exact(hnew k (by omega)).trans (if_neg (by omega))
theorem LG.broker(h:LG W c y B n f v nk vK ow)(p:BrL){s:BrS}{vK':Value}(ho:Only (λk=>k=y.hb\/vK.ownBlock=some k) W W')(hb:BrAt W' B c.n p c.cap c.tk s)(hs:zBk c.tk c.n (zCr (BkS.new c.n) (c.mi.zs.getD nk 0)) s)(hp:∀k,p.has k->W.heap.size<=k)(hblk:Blk W' y.hb 92 (lgC c y v vK'))(hoK:W'.ownsRow B 93 1 vK' (nk+1) ((List.range nk).map (λj=>Value.pointer (some ⟨y.bg j,0,none⟩))++[.pointer (some ⟨p.g,0,none⟩)]))(hat:∀k,vK'.ownBlock=some k->vK.ownBlock=some k\/W.heap.size<=k)(hBW:B<=W.heap.size):LG W' c {y with bg:=bN y.bg nk p.g} B n f v (nk+1) vK' (λk=>if k<W.heap.size then ow k else if k=p.g\/k=p.gw\/k=p.gg\/k=p.gs\/k=p.gq then .bk nk else .no):=by
 have hw:∀k,k<W.heap.size->(λk=>if k<W.heap.size then ow k else if k=p.g\/k=p.gw\/k=p.gg\/k=p.gs\/k=p.gq then .bk nk else .no) k=ow k:=λk hk=>if_pos hk
 have hnew:∀k,W.heap.size<=k->(λk=>if k<W.heap.size then ow k else if k=p.g\/k=p.gw\/k=p.gg\/k=p.gs\/k=p.gq then .bk nk else .no) k=if k=p.g\/k=p.gw\/k=p.gg\/k=p.gs\/k=p.gq then .bk nk else .no:=λk hk=>if_neg (Nat.not_lt.2 hk)
 have hD:∀k,k<W.heap.size->(k=y.hb\/vK.ownBlock=some k)->ow k= .no\/k=y.hb:=λk _ hd=>by
  rcases hd with e|e
  ·exact .inr e
  ·exact .inl (h.nK k e)
 obtain⟨k1,k2,k3⟩:=h.keep (ow':=λk=>if k<W.heap.size then ow k else if k=p.g\/k=p.gw\/k=p.gg\/k=p.gs\/k=p.gq then .bk nk else .no) ho hD hw;have hsz:=ho.size;refine⟨hblk,λr hr=>bL (h.o r hr) ho (λk hk hd=> ?_),?_,k1,λj hj=> ?_,⟨k3.at_,k3.o⟩,(hw _ h.blk.lt).trans h.oh,λr hr k hk=>(hw k ((h.o r hr).lt k hk).2).trans (h.nv r hr k hk),λk hk=> ?_,h.ne,λk hk=> ?_,λk hk=> ?_⟩
 ·rcases hd with rfl|e2
  ·exact bC (h.o r hr) h.blk (zJe r).1 hk
  ·rcases dV (h.o r hr) h.oK (zJe r).2.1 with e1|e1
   ·rw[e1]at hk;cases hk
   ·exact e1 (by rw[hk,e2])
 ·exact(congrArg (λxs=>W'.ownsRow B 93 1 vK' (nk+1) xs) (zFl y.bg (λz:Nat=>Value.pointer (some ⟨z,0,none⟩)) nk p.g)).mpr hoK
 ·by_cases e:j=nk
  ·subst e;show BrRow W' B (bN y.bg j p.g j) _ _ _ _ _;rw[dD];exact⟨⟨p,s,rfl,hb,hs,λk hk=>(hnew k (hp k hk)).trans (if_pos hk)⟩⟩
  ·show BrRow W' B (bN y.bg nk p.g j) _ _ _ _ _;rw[cQ _ _ e];exact k2 j (by omega)
 ·rcases hat k hk with e|e
  ·exact(hw k (h.oK.lt k e).2).trans (h.nK k e)
  ·refine(hnew k e).trans (if_neg ?_);rintro(e2|e2|e2|e2|e2)
   ·exact bC hoK hb.blk (by decide) (by rw[hk,e2])
   ·exact bC hoK hb.rw_ (by decide) (by rw[hk,e2])
   ·exact bC hoK hb.rg (by decide) (by rw[hk,e2])
   ·exact bC hoK hb.rs (by decide) (by rw[hk,e2])
   ·exact bC hoK hb.rq (by decide) (by rw[hk,e2])
 ·by_cases hlt:k<W.heap.size
  ·exact h.low k (by rw[<-hw k hlt];exact hk)
  ·omega
 ·have h1:=λq hq=>hb.lt q hq
  refine(hnew k (by omega)).trans (if_neg ?_);intro e;have:=h1 k e;omega
theorem LG.start{hb sb xb ib xc ic:Nat}{X Y:List Nat}{y:fD}(hy:y.hb=hb/\y.sb=sb/\y.xb=xb/\y.ib=ib/\y.xc=xc/\y.ic=ic/\y.X=X/\y.Y=Y)(hBW:B<=W.heap.size)(hs:ShvAt W B sb xb ib c.ln c.la.c c.n xc ic c.la.A X Y (List.replicate c.n (zAm c.ln)))(hhb:hb=W.heap.size):LG (W.alloc (.cells (lgC c y (λ_=> .slice none 0 0) (.slice none 0 0)) 92)) c y B (λ_=>0) (λ_ _=>0) (λ_=> .slice none 0 0) 0 (.slice none 0 0) (λk=>if k=hb then .off else if B<=k/\k<hb then .str 0 else .no):=by
 obtain⟨rfl,rfl,rfl,rfl,rfl,rfl,rfl,rfl⟩:=hy;have hbl:uR W (W.alloc (.cells (lgC c y (λ_=> .slice none 0 0) (.slice none 0 0)) 92)):=(qC _ _).alloc (qA _) _;have hsz:(W.alloc (.cells (lgC c y (λ_=> .slice none 0 0) (.slice none 0 0)) 92)).heap.size=W.heap.size+1:=by simp
 have key:∀k,B<=k->k<W.heap.size->(if k=y.hb then Tag.off else if B<=k/\k<y.hb then .str 0 else .no)= .str 0:=λk h1 h2=>by rw[if_neg (by omega),if_pos ⟨h1,by omega⟩]
 have e:∀l,l<c.ln->lsS (fS (zAm c.ln) l)=[]:=λl _=>by unfold lsS;rw[List.filterMap_eq_nil_iff];intro s hs;obtain rfl:=jT (List.mem_of_mem_drop (List.mem_of_mem_take hs));rfl
 have hpl:plQ c.ln (List.replicate c.n (zAm c.ln))=(List.range c.n).map λ_=>List.replicate c.ln []:=by
  unfold plQ;rw[List.map_replicate];have:zHe c.ln (zAm c.ln)=List.replicate c.ln []:=by unfold zHe;rw[List.eq_replicate_iff];exact⟨by simp,λx hx=>by obtain⟨l,hl,rfl⟩:=jC.1 hx;exact e l (jZ.1 hl)⟩
  rw[this]
  symm
  rw[List.eq_replicate_iff];exact⟨by simp,λx hx=>by obtain⟨_,_,rfl⟩:=jC.1 hx;rfl⟩
 have hgood:Goods 0 c.n c.ln (List.replicate c.n (zAm c.ln)):=⟨by simp,λq hq=>by obtain rfl:=jT hq;refine⟨by simp[zAm],λp s hs h2=> ?_⟩;obtain rfl:=jT (qB hs);cases h2⟩
 have hrow:ShvRow W B c y (λ_=>List.replicate c.ln []) 0 (λk=>B<=k):=by obtain⟨cs,hx,_⟩:=hs.rowx;obtain⟨ds,hz,_⟩:=hs.rowy;exact⟨⟨_,hs,by exact_mod_cast hgood,hpl⟩,hs.low.1,hs.low.2.1,hs.low.2.2,λk hk=>(XY.ge hs hk).1⟩
 refine⟨by have:=Blk.new W 92 (lgC c y (λ_=> .slice none 0 0) (.slice none 0 0));rw[<-hhb]at this;exact this,λq _=>qH _ _ _ _,qH _ _ _ _,λq i _ hi=>absurd hi (Nat.not_lt_zero _),λj hj=>absurd hj (Nat.not_lt_zero _),hrow.only (D:=λ_=>False) (Only.of_below hbl λx h1 h2=>by omega) (λ_ _ _ e=>e) (λk hk h1=>key k h1 hk),if_pos rfl,λq _ k hk=>(by cases hk),λk hk=>(by cases hk),λk hk=>(by cases hk),λk hk=> ?_,λk hk=> ?_⟩
 ·refine Nat.not_lt.1 λhlt=>hk ?_
  rw[if_neg (by omega),if_neg (by omega)]
 ·rw[hsz]at hk;rw[if_neg (by omega),if_neg (by omega)]
theorem LG.done(h:LG W c y B n f v c.m vK ow)(hn:∀q,q<3->n q=c.n)(hc:c.ok W B)(hm:bG c=true)(hBW:B<=W.heap.size):∃y' ow',y'.hb=y.hb/\RW W c y' (WS.new c) 0 B ow':=by
 obtain⟨⟨_,hn1,_⟩,_,_,⟨hm1,_⟩,_⟩:=bK hm;have key:∀q,q<3->∃g cap cs,v q= .slice (some ⟨g,0,none⟩) c.n cap/\B<=g/\Blk W g (tyE q) cs/\(∀i,i<c.n->cs[i]? =some (zEc c.m (f q i)))/\ow g= .no:=λq hq=>by have h1:=h.o q hq;rw[hn q hq]at h1;obtain⟨g,cap,cs,e,b1,_,b3,b4⟩:=zJu h1 (by omega);exact⟨g,cap,cs,e,b1,b3,λi hi=>b4 i _ (by simp[hi]),h.nv q hq g (by rw[e];rfl)⟩
 obtain⟨g0,c0,cs0,e0,a0,b0,d0,o0⟩:=key 0 (by omega);obtain⟨g1,c1,cs1,e1,a1,b1,d1,o1⟩:=key 1 (by omega);obtain⟨g2,c2,cs2,e2,a2,b2,d2,o2⟩:=key 2 (by omega);obtain⟨kb,kc,ds,rfl,f1,_,f3,f4⟩:=zJu h.oK (by omega);have nk0:ow kb= .no:=h.nK kb rfl;have hw:∀t:Tag,t≠ .no->∀k,k<W.heap.size->ow k=t->(if k=g0\/k=g1\/k=g2\/k=kb then Tag.con else ow k)=t:=λt ht k _ he=>by
  rw[if_neg λe=> ?_]
  ·exact he
  ·rcases e with rfl|rfl|rfl|rfl
   ·exact ht (he.symm.trans o0)
   ·exact ht (he.symm.trans o1)
   ·exact ht (he.symm.trans o2)
   ·exact ht (he.symm.trans nk0)
 have hO:=Only.refl (λ_=>False) W;have hrow:∀q i,q<3->i<c.n->Blk W (f q i) (tyB q) (celB c.m q)/\(if f q i=g0\/f q i=g1\/f q i=g2\/f q i=kb then Tag.con else ow (f q i))=zEx i q:=λq i hq hi=>by obtain⟨h1,h2⟩:=h.rows q i hq (by rw[hn q hq];exact hi);exact⟨h1,hw _ (zIq i q).1 _ h1.lt h2⟩
 have hlow:∀q i,q<3->i<c.n->B<=f q i:=λq i hq hi=>h.low _ (by rw[(h.rows q i hq (by rw[hn q hq];exact hi)).2];exact(zIq i q).1)
 refine⟨{y with rb:=g0,rc:=c0,ab:=g1,ac:=c1,gb:=g2,gc:=c2,kb:=kb,kc:=kc,r:=f 0,a:=f 1,g:=f 2},λk=>if k=g0\/k=g1\/k=g2\/k=kb then .con else ow k,rfl,λt=> ?_,λk hk=> ?_,λk hk=> ?_,hc,hm,hBW⟩
 ·cases t with
  |no=>trivial
  |con=>exact⟨⟨cs0,b0,d0⟩,⟨cs1,b1,d1⟩,⟨cs2,b2,d2⟩,⟨ds,f3,λj hj=>f4 j _ (by simp[hj])⟩,if_pos (.inl rfl),if_pos (.inr (.inl rfl)),if_pos (.inr (.inr (.inl rfl))),if_pos (.inr (.inr (.inr rfl)))⟩
  |sh i=>exact λhi=>⟨⟨rkZ c.m,λ_=>Rk.new,λ_=> .slice none 0 0,λ_=> .slice none 0 0,λk hk=>⟨⟨(hrow 0 i (by omega) hi).1,rkZ_has _ _ hk,qH _ _ _ _,qH _ _ _ _,λ_ e=>by cases e⟩,⟨new_same,⟨Int.le_refl _,Int.le_refl _,by simp[Rk.new,cJ],λ_ e=>(by cases e),qA _⟩⟩,λb e=>by rcases e with e|e<;>cases e⟩,λk k' _ _ _ b e=>by rcases e with e|e<;>cases e⟩,(hrow 0 i (by omega) hi).2⟩
  |ask i=>exact λhi=>⟨yCj (.inl rfl) (hrow 1 i (by omega) hi).1,hlow 1 i (by omega) hi,(hrow 1 i (by omega) hi).2⟩
  |gn i=>exact λhi=>⟨yCj (.inr rfl) (hrow 2 i (by omega) hi).1,hlow 2 i (by omega) hi,(hrow 2 i (by omega) hi).2⟩
  |str i=>intro hi;subst hi;have h1:=h.shv.only hO (λ_ _ _ e=>e) (hw (.str 0) (by simp));exact⟨h1.at_,h1.o⟩
  |bk j=>intro hj;show BrRow W B (y.bg j) c.n c.cap c.tk (if j<c.m then zCr (BkS.new c.n) (c.mi.zs.getD j 0)else BkS.new c.n) _;rw[if_pos hj];exact(h.bk j hj).only hO (λ_ _ _ e=>e) (hw _ (by simp))
  |off=>have hb:=h.blk;unfold lgC at hb;rw[e0,e1,e2]at hb;exact⟨⟨.slice none 0 0,[],hb,qH _ _ _ _,rfl,λ_ e=>(by cases e),⟨λk f e=>(by cases e),λk f e=>(by cases e),λa b e=>absurd e (Int.lt_irrefl _)⟩,λk e=>(by cases e)⟩,hw .off (by simp) _ h.blk.lt h.oh⟩
  |lst=>trivial
 ·by_cases e:k=g0\/k=g1\/k=g2\/k=kb
  ·rcases e with rfl|rfl|rfl|rfl
   ·exact a0
   ·exact a1
   ·exact a2
   ·exact f1
  ·rw[if_neg e]at hk;exact h.low k hk
 ·have h0:=b0.lt;have h1:=b1.lt;have h2:=b2.lt;have h3:=f3.lt;rw[if_neg (by omega)];exact h.fresh k hk
end
theorem lgC_get(c:Cfg)(y:fD)(v:Nat->Value)(vK:Value){q:Nat}(hq:q<3):(lgC c y v vK)[5+q]? =some (v q):=by
 obtain h|h|h:q=0\/q=1\/q=2:=by omega
 all_goals subst h;rfl
theorem lgC_set(c:Cfg)(y:fD)(v:Nat->Value)(vK x:Value){q:Nat}(hq:q<3):(lgC c y v vK).setIfInBounds (5+q) x=lgC c y (bN v q x) vK:=by
 obtain h|h|h:q=0\/q=1\/q=2:=by omega
 all_goals subst h;rfl
theorem tyE_cfg(q:Nat):tyE q≠24:=by
 match q with
 |0=>decide
 |_+1=>show(22:TypeId)≠_;decide
structure LgA(w W:World)(c:Cfg)(cb:Nat)(y:fD)(n:Nat->Nat)(f:Nat->Nat->Nat)(v:Nat->Value)(nk:Nat)(vK:Value)(ow:Nat->Tag):Prop where
 lg:LG W c y w.heap.size n f v nk vK ow
 bel:uR w W
 kb:Blk W cb 24 c.cells.toArray
section
variable {w W W' w7:World}{c:Cfg}{cb nk:Nat}{y:fD}{n:Nat->Nat}{f:Nat->Nat->Nat}{v:Nat->Value}{vK:Value}{ow:Nat->Tag}
theorem LgA.calm(h:LgA w W c cb y n f v nk vK ow)(hw:uR W W'):LgA w W' c cb y n f v nk vK ow:=⟨h.lg.calm hw,h.bel.trans (hw.mono h.bel.size),h.kb.below hw h.kb.lt⟩
theorem LgA.low(h:LgA w W c cb y n f v nk vK ow):w.heap.size<=y.hb:=h.lg.low _ (by rw[h.lg.oh];simp)
theorem LgA.row(h:LgA w W c cb y n f v nk vK ow){q g g7 cap7:Nat}(hq:q<3)(hw:uR W W')(hg:Blk W' g (tyB q) (celB c.m q))(hgl:W.heap.size<=g)(hgr:W'.grownBy w7 (v q).ownBlock)(hown:w7.ownsRow w.heap.size (tyE q) 1 (.slice (some ⟨g7,0,none⟩) (n q+1) cap7) (n q+1) ((List.range (n q)).map (λi=>zEc c.m (f q i))++[zEc c.m g]))(hat:some g7=(v q).ownBlock\/W.heap.size<=g7):(w7.cell? ⟨y.hb,5+q,none⟩=some (v q)/\w7.frozen? ⟨y.hb,5+q,none⟩=false)/\∃n' f' v' ow',LgA w (w7.setCell ⟨y.hb,5+q,none⟩ (.slice (some ⟨g7,0,none⟩) (n q+1) cap7)) c cb y n' f' v' nk vK ow'/\n'=bN n q (n q+1):=by
 have hW':=h.calm hw;have o0:Only (λk=>k=y.hb\/(v q).ownBlock=some k) W W':=Only.of_below hw (λx h1 h2=>by omega);have o1:Only (λk=>(v q).ownBlock=some k) W' w7:=(Only.refl _ _).grown hgr (λg hg _=>hg);have o2:Only (λk=>k=y.hb) w7 (w7.setCell ⟨y.hb,5+q,none⟩ (.slice (some ⟨g7,0,none⟩) (n q+1) cap7)):=bJ (Only.refl _ _) _ _;have o3:Only (λk=>k=y.hb\/(v q).ownBlock=some k) W (w7.setCell ⟨y.hb,5+q,none⟩ (.slice (some ⟨g7,0,none⟩) (n q+1) cap7)):=(o0.trans o1 λx _ e=> .inr e).trans o2 λx _ e=> .inl e
 have hk7:Blk w7 y.hb 92 _:=hW'.lg.blk.only o1 (bC (hW'.lg.o q hq) hW'.lg.blk (zJe q).1);have hbW:∀k,(k=y.hb\/(v q).ownBlock=some k)->k<W.heap.size:=λk hd=>by
  rcases hd with rfl|e
  ·exact h.lg.blk.lt
  ·exact((h.lg.o q hq).lt k e).2
 have hset:=hk7.set_ (5+q) (.slice (some ⟨g7,0,none⟩) (n q+1) cap7);rw[lgC_set _ _ _ _ _ hq]at hset;refine⟨⟨(hk7.cell (5+q)).trans (lgC_get _ _ _ _ hq),hk7.frozen _⟩,_,_,_,_,⟨h.lg.row hq o3 ((hg.only o1 λe=>by have:=hbW _ (.inr e);omega).only o2 λe=>by have:=hbW _ (.inl e);omega) hgl hset (bL hown o2 λk hk e=>bC hown hk7 (zJe q).1 (by rw[hk,e])) (λk hk=> ?_) h.bel.size,?_,?_⟩,rfl⟩
 ·have:k=g7:=by simpa[Value.ownBlock]using hk.symm
  subst this;rcases hat with e|e
  ·exact .inl e.symm
  ·exact .inr e
 ·refine(o3.to_below (λx hx hd hx2=> ?_) h.bel.size)|>h.bel.trans
  rcases hx2 with rfl|e
  ·exact absurd h.low (by omega)
  ·have:=((h.lg.o q hq).lt x e).1;omega
 ·exact h.kb.only o3 (λhd=>by
   rcases hd with e|e
   ·exact Blk.ne_ h.kb h.lg.blk (by decide) e
   ·exact bC (h.lg.o q hq) h.kb (tyE_cfg q) e)
theorem LgA.broker(h:LgA w W c cb y n f v nk vK ow){p:BrL}{s:BrS}{g7 cap7:Nat}(hw:uR W W')(hb:BrAt W' w.heap.size c.n p c.cap c.tk s)(hs:zBk c.tk c.n (zCr (BkS.new c.n) (c.mi.zs.getD nk 0)) s)(hp:∀k,p.has k->W.heap.size<=k)(hgr:W'.grownBy w7 vK.ownBlock)(hown:w7.ownsRow w.heap.size 93 1 (.slice (some ⟨g7,0,none⟩) (nk+1) cap7) (nk+1) ((List.range nk).map (λj=>Value.pointer (some ⟨y.bg j,0,none⟩))++[.pointer (some ⟨p.g,0,none⟩)]))(hat:some g7=vK.ownBlock\/W.heap.size<=g7):(w7.cell? ⟨y.hb,9,none⟩=some vK/\w7.frozen? ⟨y.hb,9,none⟩=false)/\∃y' vK' ow',LgA w (w7.setCell ⟨y.hb,9,none⟩ (.slice (some ⟨g7,0,none⟩) (nk+1) cap7)) c cb y' n f v (nk+1) vK' ow'/\y'.hb=y.hb:=by
 have hW':=h.calm hw;have o0:Only (λk=>k=y.hb\/vK.ownBlock=some k) W W':=Only.of_below hw (λx h1 h2=>by omega);have o1:Only (λk=>vK.ownBlock=some k) W' w7:=(Only.refl _ _).grown hgr (λg hg _=>hg);have o2:Only (λk=>k=y.hb) w7 (w7.setCell ⟨y.hb,9,none⟩ (.slice (some ⟨g7,0,none⟩) (nk+1) cap7)):=bJ (Only.refl _ _) _ _;have o3:Only (λk=>k=y.hb\/vK.ownBlock=some k) W (w7.setCell ⟨y.hb,9,none⟩ (.slice (some ⟨g7,0,none⟩) (nk+1) cap7)):=(o0.trans o1 λx _ e=> .inr e).trans o2 λx _ e=> .inl e
 have o4:Only (λk=>k=y.hb\/vK.ownBlock=some k) W' (w7.setCell ⟨y.hb,9,none⟩ (.slice (some ⟨g7,0,none⟩) (nk+1) cap7)):=(o1.mono λx _ e=> .inr e).trans o2 λx _ e=> .inl e
 have hk7:Blk w7 y.hb 92 _:=hW'.lg.blk.only o1 (bC hW'.lg.oK hW'.lg.blk (by decide));have hbW:∀k,(k=y.hb\/vK.ownBlock=some k)->k<W.heap.size:=λk hd=>by
  rcases hd with rfl|e
  ·exact h.lg.blk.lt
  ·exact(h.lg.oK.lt k e).2
 refine⟨⟨hk7.cell 9,hk7.frozen 9⟩,_,_,_,⟨h.lg.broker p o3 (hb.only o4 λk hk hd=>by have:=hp k hk;have:=hbW k hd;omega) hs hp (hk7.set_ 9 _) (bL hown o2 λk hk e=>bC hown hk7 (by decide) (by rw[hk,e])) (λk hk=> ?_) h.bel.size,?_,?_⟩,rfl⟩
 ·have:k=g7:=by simpa[Value.ownBlock]using hk.symm
  subst this;rcases hat with e|e
  ·exact .inl e.symm
  ·exact .inr e
 ·refine(o3.to_below (λx hx hd hx2=> ?_) h.bel.size)|>h.bel.trans
  rcases hx2 with rfl|e
  ·exact absurd h.low (by omega)
  ·have:=(h.lg.oK.lt x e).1;omega
 ·exact h.kb.only o3 (λhd=>by
   rcases hd with e|e
   ·exact Blk.ne_ h.kb h.lg.blk (by decide) e
   ·exact bC h.lg.oK h.kb (by decide) e)
end
theorem BrAt.stocked{w:World}{base nb:Nat}{p:BrL}{most ticks:Int}{s:BrS}(h:BrAt w base nb p most ticks s)(x:Int):BrAt ((w.setCell ⟨p.g,4,none⟩ (.int .i64 x)).setCell ⟨p.g,5,none⟩ (.int .i64 x)) base nb p most ticks {s with reserve:=x,ever:=x}:=by have ho:Only (λk=>k=p.g) w ((w.setCell ⟨p.g,4,none⟩ (.int .i64 x)).setCell ⟨p.g,5,none⟩ (.int .i64 x)):=bJ (bJ (Only.refl _ _) 4 _) 5 _;obtain⟨n1,n2,n3,n4⟩:=h.ng;exact⟨(h.blk.set_ 4 _).set_ 5 _,Blk.only h.rw_ ho (Ne.symm n1),Blk.only h.rg ho (Ne.symm n2),Blk.only h.rs ho (Ne.symm n3),Blk.only h.rq ho (Ne.symm n4),h.cap,h.low,h.ne⟩
section
variable {w:World}{c:Cfg}
set_option maxRecDepth 1000000 in
theorem zXe(hc:c.ok w w.heap.size)(hcf:bG c=true):Calls prog 24 #[c.val] w λe w'=>∃y ow,e= .returned (.pointer (some ⟨y.hb,0,none⟩))/\RW w' c y (WS.new c) 0 w.heap.size ow/\uR w w':=by
 obtain⟨⟨hn,hn1,hn8⟩,hln,htk,hm3,hcap,hla,hmi⟩:=bK hcf;obtain⟨iS,hiS,zS,hzS,hcS,hsS,hyS⟩:∃i,prog.info? 99=some i/\∃z,i.zero=some z/\z.cells.toList=[Value.int .i64 0,.int .i64 0,.slice none 0 0,.slice none 0 0]/\i.size=4/\i.bytes=64:=zAb (by kernel_rfl);obtain⟨iI,hiI,hzI,hsI,hyI⟩:∃i,prog.info? 3=some i/\i.zero=some (.int .i64 0)/\i.size=1/\i.bytes=8:=gB (by kernel_rfl);obtain⟨iR,hiR,hzR,hsR,hyR⟩:∃i,prog.info? 96=some i/\i.zero=some (.slice none 0 0)/\i.size=1/\i.bytes=24:=gB (by kernel_rfl);obtain⟨iL,hiL,hzL,hsL,hyL⟩:∃i,prog.info? 22=some i/\i.zero=some (.slice none 0 0)/\i.size=1/\i.bytes=24:=gB (by kernel_rfl);obtain⟨iK,hiK,hzK,hsK,hyK⟩:∃i,prog.info? 93=some i/\i.zero=some (.pointer none)/\i.size=1/\i.bytes=8:=gB (by kernel_rfl);have hzc:zS.cells=#[.int .i64 0,.int .i64 0,.slice none 0 0,.slice none 0 0]:=by rw[<-uD];exact hcS
 have hmkS:=λW=>dN (P:=prog) 96 99 iS _ underlying96 hiS hzS .i64 .i64 c.m c.m (qA _) (by rw[hyS];omega) (by omega) W
 rw[hsS,hzc,show madeCells #[Value.int .i64 0,.int .i64 0,.slice none 0 0,.slice none 0 0] (c.m*4)=rkZ c.m from rfl]at hmkS;have hmkI:=λW=>dN (P:=prog) 22 3 iI _ underlying22 hiI hzI .i64 .i64 c.m c.m (qA _) (by rw[hyI];omega) (by omega) W
 rw[hsI,Nat.mul_one,show(Value.int .i64 0).cells=#[Value.int .i64 0]from rfl]at hmkI;obtain⟨HMS,HMI⟩:=uI hmkS hmkI;obtain⟨cb,hcb⟩:=kB w.heap.size;obtain⟨wx,hwx⟩:=kB (w.alloc (.cells c.cells.toArray 24));have hbx:=uH hwx;have kc:Blk wx cb 24 c.cells.toArray:=by rw[hwx,hcb];exact Blk.new _ _ _
 obtain⟨HBX,HKC,HCB,HWX,HN,HC,HCF,HMI2,HMN⟩:=uP hbx kc hcb hwx hn hc hcf hmi (show c.mi.n=c.m from hc.2.1.1.symm);have hlan:c.la.n=c.ln:=hc.1.1.symm;obtain⟨HLAN,HSH⟩:=uI hlan (λW=>zTu c.la.A c.ln c.la.c c.n W (by omega) (by omega) hn1);have d0:=λn:Ext wx=>n.cell (show wx.cell? ⟨cb,0,none⟩=some (.int .i64 (c.n:Int))by rw[<-hn];exact kc.cell 0)
 have d1:=λn:Ext wx=>n.cell (show wx.cell? ⟨cb,1,none⟩=some (.slice c.la.A c.ln c.la.c)by rw[<-hlan];exact kc.cell 1)
 have d2:=λn:Ext wx=>n.cell (show wx.cell? ⟨cb,2,none⟩=some (.int .i64 c.tk)from kc.cell 2)
 have d3:=λn:Ext wx=>n.cell (show wx.cell? ⟨cb,3,none⟩=some (.slice c.mi.A c.mi.n c.mi.c)from kc.cell 3)
 have d4:=λn:Ext wx=>n.cell (show wx.cell? ⟨cb,4,none⟩=some (.int .i64 c.cap)from kc.cell 4)
 clear hbx kc hcb hwx hn hc hcf hla hmi hmkS hmkI hzc hcS hzS hlan;unfold Cfg.val;go_enter func24,ntmps24;go_upto_region 1 with fail;rw[zRc c,<-HWX.s,<-HCB.s]
 go_cut [3]from 8 to 15 (λs3 W=>∃y,s3= .pointer (some ⟨y.hb,0,none⟩)/\uS (∃ow,LgA w W c cb y (λ_=>0) (λ_ _=>0) (λ_=> .slice none 0 0) 0 (.slice none 0 0) ow))
 case first=>
  refine gT [0,1,2,3,4] [5,6,7] [8] (by as_aux_lemma=>kernel_rfl) (by as_aux_lemma=>kernel_rfl) (by intro c a d v w h;cases d<;>exact h) ?_;simp only[bB,qJ,qO,qD,qE]
  repeat(go_big_quiet_step (fail))
  refine qF ?_;clear d0 d1 d2 d3 d4;obtain⟨W1,hW1⟩:=kB wx.drew;have hWB:uR wx W1:=by rw[hW1];exact(qC _ _).drew
  rw[<-hW1];clear hW1;simp only[fJ];have hsh:=HSH.s W1;go_wp2_with fail;refine hsh.mono ?_;rintro _ w2 ⟨sb,xb,ib,xc,ic,X,Y,rfl,hsv,hb2⟩;have hx2:=hWB.trans (hb2.mono hWB.size);have HX2:=uT hx2;have hbel:uR w w2:=HBX.s.trans (hx2.mono HBX.s.size);have hW1:w.heap.size<=W1.heap.size:=qN HBX.s.size hWB.size;have hsv2:ShvAt w2 w.heap.size sb xb ib c.ln c.la.c c.n xc ic c.la.A X Y (List.replicate c.n (zAm c.ln)):=⟨hsv.n8,hsv.m8,hsv.xm,hsv.ym,hsv.qm,hsv.cap,hsv.shelves,hsv.rowx,hsv.rowy,λj x y q a b d=>{hsv.st j x y q a b d with lowx:=qN hW1 (hsv.st j x y q a b d).lowx,lowy:=qN hW1 (hsv.st j x y q a b d).lowy},hsv.ndx,hsv.ndy,⟨qN hW1 hsv.low.1,qN hW1 hsv.low.2.1,qN hW1 hsv.low.2.2⟩⟩;obtain⟨y,hy⟩:∃y:fD,y=⟨w2.heap.size,0,0,0,0,0,0,0,0,sb,xb,ib,xc,ic,X,Y,λ_=>0,λ_=>0,λ_=>0,λ_=>0⟩:=⟨_,rfl⟩;have hst:=LG.start (c:=c) (y:=y) (hb:=w2.heap.size) (by rw[hy];exact⟨rfl,rfl,rfl,rfl,rfl,rfl,rfl,rfl⟩) hbel.size hsv2 rfl;have hkb:Blk w2 cb 24 c.cells.toArray:=HKC.s.below hx2 HKC.s.lt;have hYH:y.hb=w2.heap.size:=by rw[hy]
  have hYS:y.sb=sb:=by rw[hy]
  unfold lgC at hst;rw[hYS,HN.s,HLAN.s]at hst;have HST:=uT (And.intro hst (And.intro hkb (And.intro hbel hYH)));clear hst hkb hbel hYS hsv hsv2 hb2 hx2 hW1 hsh hWB hy hYH;go_wp2_with fail;refine⟨⟨⟨_,HX2.s⟩,rfl⟩,?_⟩;go_wp2_with fail;refine⟨⟨⟨_,HX2.s⟩,rfl⟩,?_⟩;go_wp2_with fail;refine⟨⟨⟨_,HX2.s.alloc HX2.s.size _⟩,rfl⟩,?_⟩
  repeat(go_big_quiet_step (fail))
  refine qF ?_;go_wp2_with fail;go_meet;refine⟨y,by rw[HST.s.2.2.2],uT ⟨_,⟨HST.s.1,HST.s.2.2.1.trans ((qC _ _).alloc HST.s.2.2.1.size _),HST.s.2.1.alloc _⟩⟩⟩
 case rest=>
  obtain⟨y,rfl,HST⟩:=hcut;obtain⟨ow0,hst⟩:=HST.s;have HS0:=uT hst;clear d0 d1 d2 d3 d4 hst HST;go_wp2_with fail
  go_loopw [4] (λi wr=>∃(k:Nat) (n:Nat->Nat) (f:Nat->Nat->Nat) (v:Nat->Value) (ow:Nat->Tag),k<=c.n/\i= .int .i64 k/\uS (LgA w wr c cb y n f v 0 (.slice none 0 0) ow)/\uS (∀q,q<3->n q=k)) (λi _=>c.n-(intOf i).toNat)
  case atStart=>exact⟨0,_,_,_,ow0,qL _,rfl,HS0,uT λ_ _=>rfl⟩
  case round=>
   obtain⟨k,n,f,v,ow,hk,rfl,HA,HNN⟩:=hrel;have c0:wr.cell? ⟨cb,0,none⟩=some (.int .i64 (c.n:Int)):=by rw[<-HN.s];exact HA.s.kb.cell 0
   by_cases hlt:k<c.n
   ·have hlt':(k:Int)<(c.n:Int):=by omega
    go_upto_region 5 with fail;clear c0;obtain⟨A0,cA0,hvA0,_⟩:=bE (HA.s.lg.o 0 (by omega));have hkq0:=HNN.s 0 (by omega);rw[hkq0]at hvA0;have e1:=λm:Ext wr=>m.cell (show wr.cell? ⟨y.hb,5,none⟩=some (.slice A0 k cA0)by rw[<-hvA0];exact HA.s.lg.blk.cell 5)
    have e2:=λm:Ext wr=>m.cell (show wr.cell? ⟨cb,3,none⟩=some (.slice c.mi.A c.m c.mi.c)by rw[<-HMN.s];exact HA.s.kb.cell 3)
    refine bO [0] [1,2,3,4,5,6,7] [] [8,9] 10 [11,12,13] (by as_aux_lemma=>kernel_rfl) (by as_aux_lemma=>kernel_rfl) (by intro c a d v w h;cases d<;>exact h) ?_;simp only[bB,qJ,qO,qD,qE]
    repeat(go_big_quiet_step (fail))
    refine qF ?_
    repeat(go_big_quiet_step (fail))
    refine qF (qF ?_);clear e1 e2;rintro W1 ⟨nq,hW⟩;have hWB:uR wr W1:=hW▸nq.h;clear hW;simp only[fJ];have hmk:=HMS.s W1;go_wp2_with fail;clear hmk;refine⟨⟨⟨_,hWB.alloc hWB.size _⟩,rfl⟩,?_⟩;obtain⟨w5,hw5⟩:=kB (W1.alloc (.cells (rkZ c.m) 99));obtain⟨g,hg⟩:=kB W1.heap.size;have hB5:uR wr w5:=by rw[hw5];exact hWB.alloc hWB.size _
    have k5:Blk w5 g (tyB 0) (celB c.m 0):=by rw[hw5,hg];exact Blk.new _ _ _
    have hgl:wr.heap.size<=g:=by rw[hg];exact hWB.size
    rw[<-hw5,<-hg];clear hw5 hg hWB;go_wp2_with fail;refine⟨⟨⟨_,hB5.alloc hB5.size _⟩,rfl⟩,?_⟩;obtain⟨HOWN,HMQ⟩:=uI (show w5.ownsRow w.heap.size 96 1 (.slice A0 k cA0) k ((List.range k).map λi=>zEc c.m (f 0 i))by have h1:=bI (HA.s.lg.o 0 (by omega)) hB5;rw[hkq0,hvA0]at h1;exact h1) (show(k+1)*24<=140737488355328 by omega);have hsz:w.heap.size<=w5.heap.size:=qN HA.s.bel.size hB5.size;obtain⟨HB5,HK5,HGL,HVA,HKQ⟩:=uL hB5 k5 hgl hvA0 hkq0;clear hB5 k5 hgl hvA0 hkq0;go_wp2_with(first
     |(at_builtin;(refine bF w5 rfl (.tmp 26) (.tmp 31) _ rfl w.heap.size 96 iR _ 1 24 underlying86 hiR hzR hsR hyR rfl (by omega) (by omega) _ k _ HOWN.s rfl _ 1 _ rfl rfl rfl (by simp[Value.oneCell']) HMQ.s hsz ?_);intro g7 cap7 w7 hg7 hown7 hbel7 hgr7 hat7
       have h9:=HA.s.row (q:=0) (w7:=w7) (g:=g) (g7:=g7) (cap7:=cap7) (by omega) HB5.s HK5.s HGL.s (by rw[HVA.s];exact hgr7) (by rw[HKQ.s];exact hown7) (by
        rw[HVA.s];rcases hat7 with e|e
        ·exact .inl e
        ·exact .inr (by have:=HB5.s.size;omega))
       rw[HVA.s,HKQ.s]at h9;obtain⟨⟨u0,u1⟩,n1,f1,v1,ow1,h9,hn9⟩:=h9;obtain⟨H9,HN9⟩:=uI h9 hn9;have u0:w7.cell? ⟨y.hb,5,none⟩=some (.slice A0 k cA0):=u0;have u1:w7.frozen? ⟨y.hb,5,none⟩=false:=u1;clear h9 hn9 hg7 hown7 hbel7 hgr7 hat7 HOWN HMQ HB5 HK5 HGL HVA HKQ))
    go_upto_region 6 with fail;clear u0 u1;generalize w7.setCell ⟨y.hb,5,none⟩ (.slice (some ⟨g7,0,none⟩) (k+1) cap7)=x1 at H9⊢;have HA1:=H9;have HNN1:uS (∀r,r<3->n1 r=if r<=0 then k+1 else k):=uT λr hr=>by
     rw[HN9.s];have hp:=HNN.s r hr;by_cases e:r=0
     ·subst e;rw[dD,if_pos (by omega)]
     ·rw[cQ _ _ e,hp];rw[if_neg (by omega)]
    clear H9 HN9 HA HNN;go_upto_region 6 with fail;obtain⟨A1,cA1,hvA1,_⟩:=bE (HA1.s.lg.o 1 (by omega));have hkq1:n1 1=k:=by rw[HNN1.s 1 (by omega),if_neg (by omega)]
    rw[hkq1]at hvA1;have e1:=λm:Ext x1=>m.cell (show x1.cell? ⟨y.hb,6,none⟩=some (.slice A1 k cA1)by rw[<-hvA1];exact HA1.s.lg.blk.cell 6)
    have e2:=λm:Ext x1=>m.cell (show x1.cell? ⟨cb,3,none⟩=some (.slice c.mi.A c.m c.mi.c)by rw[<-HMN.s];exact HA1.s.kb.cell 3)
    refine bO [0] [1,2,3,4,5,6,7] [] [8,9] 10 [11,12,13] (by as_aux_lemma=>kernel_rfl) (by as_aux_lemma=>kernel_rfl) (by intro c a d v w h;cases d<;>exact h) ?_;simp only[bB,qJ,qO,qD,qE]
    repeat(go_big_quiet_step (fail))
    refine qF ?_
    repeat(go_big_quiet_step (fail))
    refine qF (qF ?_);clear e1 e2;rintro W1 ⟨nq,hW⟩;have hWB:uR x1 W1:=hW▸nq.h;clear hW;simp only[fJ];have hmk:=HMI.s W1;go_wp2_with fail;clear hmk;refine⟨⟨⟨_,hWB.alloc hWB.size _⟩,rfl⟩,?_⟩;obtain⟨w5,hw5⟩:=kB (W1.alloc (.cells (madeCells #[Value.int .i64 0] c.m) 3));obtain⟨g,hg⟩:=kB W1.heap.size;have hB5:uR x1 w5:=by rw[hw5];exact hWB.alloc hWB.size _
    have k5:Blk w5 g (tyB 1) (celB c.m 1):=by rw[hw5,hg];exact Blk.new _ _ _
    have hgl:x1.heap.size<=g:=by rw[hg];exact hWB.size
    rw[<-hw5,<-hg];clear hw5 hg hWB;go_wp2_with fail;refine⟨⟨⟨_,hB5.alloc hB5.size _⟩,rfl⟩,?_⟩;obtain⟨HOWN,HMQ⟩:=uI (show w5.ownsRow w.heap.size 22 1 (.slice A1 k cA1) k ((List.range k).map λi=>zEc c.m (f1 1 i))by have h1:=bI (HA1.s.lg.o 1 (by omega)) hB5;rw[hkq1,hvA1]at h1;exact h1) (show(k+1)*24<=140737488355328 by omega);have hsz:w.heap.size<=w5.heap.size:=qN HA1.s.bel.size hB5.size;obtain⟨HB5,HK5,HGL,HVA,HKQ⟩:=uL hB5 k5 hgl hvA1 hkq1;clear hB5 k5 hgl hvA1 hkq1;go_wp2_with(first
     |(at_builtin;(refine bF w5 rfl (.tmp 39) (.tmp 44) _ rfl w.heap.size 22 iL _ 1 24 underlying87 hiL hzL hsL hyL rfl (by omega) (by omega) _ k _ HOWN.s rfl _ 1 _ rfl rfl rfl (by simp[Value.oneCell']) HMQ.s hsz ?_);intro g7 cap7 w7 hg7 hown7 hbel7 hgr7 hat7
       have h9:=HA1.s.row (q:=1) (w7:=w7) (g:=g) (g7:=g7) (cap7:=cap7) (by omega) HB5.s HK5.s HGL.s (by rw[HVA.s];exact hgr7) (by rw[HKQ.s];exact hown7) (by
        rw[HVA.s];rcases hat7 with e|e
        ·exact .inl e
        ·exact .inr (by have:=HB5.s.size;omega))
       rw[HVA.s,HKQ.s]at h9;obtain⟨⟨u0,u1⟩,n2,f2,v2,ow2,h9,hn9⟩:=h9;obtain⟨H9,HN9⟩:=uI h9 hn9;have u0:w7.cell? ⟨y.hb,6,none⟩=some (.slice A1 k cA1):=u0;have u1:w7.frozen? ⟨y.hb,6,none⟩=false:=u1;clear h9 hn9 hg7 hown7 hbel7 hgr7 hat7 HOWN HMQ HB5 HK5 HGL HVA HKQ))
    go_upto_region 7 with fail;clear u0 u1;generalize w7.setCell ⟨y.hb,6,none⟩ (.slice (some ⟨g7,0,none⟩) (k+1) cap7)=x2 at H9⊢;have HA2:=H9;have HNN2:uS (∀r,r<3->n2 r=if r<=1 then k+1 else k):=uT λr hr=>by
     rw[HN9.s];have hp:=HNN1.s r hr;by_cases e:r=1
     ·subst e;rw[dD,if_pos (by omega)]
     ·rw[cQ _ _ e,hp];by_cases e2:r<=0
      ·rw[if_pos e2,if_pos (by omega)]
      ·rw[if_neg e2,if_neg (by omega)]
    clear H9 HN9 HA1 HNN1;go_upto_region 7 with fail;obtain⟨A2,cA2,hvA2,_⟩:=bE (HA2.s.lg.o 2 (by omega));have hkq2:n2 2=k:=by rw[HNN2.s 2 (by omega),if_neg (by omega)]
    rw[hkq2]at hvA2;have e1:=λm:Ext x2=>m.cell (show x2.cell? ⟨y.hb,7,none⟩=some (.slice A2 k cA2)by rw[<-hvA2];exact HA2.s.lg.blk.cell 7)
    have e2:=λm:Ext x2=>m.cell (show x2.cell? ⟨cb,3,none⟩=some (.slice c.mi.A c.m c.mi.c)by rw[<-HMN.s];exact HA2.s.kb.cell 3)
    refine bO [0] [1,2,3,4,5,6,7] [] [8,9] 10 [11,12,13] (by as_aux_lemma=>kernel_rfl) (by as_aux_lemma=>kernel_rfl) (by intro c a d v w h;cases d<;>exact h) ?_;simp only[bB,qJ,qO,qD,qE]
    repeat(go_big_quiet_step (fail))
    refine qF ?_
    repeat(go_big_quiet_step (fail))
    refine qF (qF ?_);clear e1 e2;rintro W1 ⟨nq,hW⟩;have hWB:uR x2 W1:=hW▸nq.h;clear hW;simp only[fJ];have hmk:=HMI.s W1;go_wp2_with fail;clear hmk;refine⟨⟨⟨_,hWB.alloc hWB.size _⟩,rfl⟩,?_⟩;obtain⟨w5,hw5⟩:=kB (W1.alloc (.cells (madeCells #[Value.int .i64 0] c.m) 3));obtain⟨g,hg⟩:=kB W1.heap.size;have hB5:uR x2 w5:=by rw[hw5];exact hWB.alloc hWB.size _
    have k5:Blk w5 g (tyB 2) (celB c.m 2):=by rw[hw5,hg];exact Blk.new _ _ _
    have hgl:x2.heap.size<=g:=by rw[hg];exact hWB.size
    rw[<-hw5,<-hg];clear hw5 hg hWB;go_wp2_with fail;refine⟨⟨⟨_,hB5.alloc hB5.size _⟩,rfl⟩,?_⟩;obtain⟨HOWN,HMQ⟩:=uI (show w5.ownsRow w.heap.size 22 1 (.slice A2 k cA2) k ((List.range k).map λi=>zEc c.m (f2 2 i))by have h1:=bI (HA2.s.lg.o 2 (by omega)) hB5;rw[hkq2,hvA2]at h1;exact h1) (show(k+1)*24<=140737488355328 by omega);have hsz:w.heap.size<=w5.heap.size:=qN HA2.s.bel.size hB5.size;obtain⟨HB5,HK5,HGL,HVA,HKQ⟩:=uL hB5 k5 hgl hvA2 hkq2;clear hB5 k5 hgl hvA2 hkq2;go_wp2_with(first
     |(at_builtin;(refine bF w5 rfl (.tmp 52) (.tmp 57) _ rfl w.heap.size 22 iL _ 1 24 underlying87 hiL hzL hsL hyL rfl (by omega) (by omega) _ k _ HOWN.s rfl _ 1 _ rfl rfl rfl (by simp[Value.oneCell']) HMQ.s hsz ?_);intro g7 cap7 w7 hg7 hown7 hbel7 hgr7 hat7
       have h9:=HA2.s.row (q:=2) (w7:=w7) (g:=g) (g7:=g7) (cap7:=cap7) (by omega) HB5.s HK5.s HGL.s (by rw[HVA.s];exact hgr7) (by rw[HKQ.s];exact hown7) (by
        rw[HVA.s];rcases hat7 with e|e
        ·exact .inl e
        ·exact .inr (by have:=HB5.s.size;omega))
       rw[HVA.s,HKQ.s]at h9;obtain⟨⟨u0,u1⟩,n3,f3,v3,ow3,h9,hn9⟩:=h9;obtain⟨H9,HN9⟩:=uI h9 hn9;have u0:w7.cell? ⟨y.hb,7,none⟩=some (.slice A2 k cA2):=u0;have u1:w7.frozen? ⟨y.hb,7,none⟩=false:=u1;clear h9 hn9 hg7 hown7 hbel7 hgr7 hat7 HOWN HMQ HB5 HK5 HGL HVA HKQ))
    go_upto_region 4 with fail;clear u0 u1;generalize w7.setCell ⟨y.hb,7,none⟩ (.slice (some ⟨g7,0,none⟩) (k+1) cap7)=x3 at H9⊢;have HA3:=H9;have HNN3:uS (∀r,r<3->n3 r=if r<=2 then k+1 else k):=uT λr hr=>by
     rw[HN9.s];have hp:=HNN2.s r hr;by_cases e:r=2
     ·subst e;rw[dD,if_pos (by omega)]
     ·rw[cQ _ _ e,hp];by_cases e2:r<=1
      ·rw[if_pos e2,if_pos (by omega)]
      ·rw[if_neg e2,if_neg (by omega)]
    clear H9 HN9 HA2 HNN2;go_wp2_with fail;go_roundw
    case rel=>exact⟨k+1,n3,f3,v3,ow3,by omega,by go_num,HA3,uT λr hr=>by rw[HNN3.s r hr,if_pos (by omega)]⟩
    case measure=>simp[intOf];omega
   ·obtain rfl:k=c.n:=by omega
    have c3:wr.cell? ⟨cb,3,none⟩=some (.slice c.mi.A c.m c.mi.c):=by rw[<-HMN.s];exact HA.s.kb.cell 3
    go_wp2_with fail
    go_loopw [64] (λi W=>∃(j:Nat) (y':fD) (vK:Value) (ow:Nat->Tag),j<=c.m/\i= .int .i64 j/\y'.hb=y.hb/\uS (LgA w W c cb y' n f v j vK ow)) (λi _=>c.m-(intOf i).toNat)
    case atStart=>exact⟨0,y,.slice none 0 0,ow,qL _,rfl,rfl,HA⟩
    case round=>
     obtain⟨j,y2,vK,ow2,hj,rfl,hyh,HA⟩:=hrel;clear c0 c3;by_cases hltj:j<c.m
     ·have hltj':(j:Int)<(c.m:Int):=by omega
      obtain⟨bm,om,z,hA,_,hz,hcz⟩:=dQ ((HC.s.2.1.2.2.2.below HA.s.bel)) (show j<c.mi.n by rw[HMN.s];exact hltj);have hzk:c.mi.zs.getD j 0=z:=by rw[qG,hz];rfl
      have hzb:=HMI2.s z (qB hz);have c0:wr.cell? ⟨cb,0,none⟩=some (.int .i64 (c.n:Int)):=by rw[<-HN.s];exact HA.s.kb.cell 0
      have c2:wr.cell? ⟨cb,2,none⟩=some (.int .i64 c.tk):=HA.s.kb.cell 2;have c4:wr.cell? ⟨cb,4,none⟩=some (.int .i64 c.cap):=HA.s.kb.cell 4;obtain⟨HBN,HZK⟩:=uI (zWg w.heap.size c.n c.cap c.tk wr hn8 HA.s.bel.size) hzk;rw[hA];clear hz hzk;go_wp2_with fail;refine HBN.s.mono ?_;rintro _ w5 ⟨p,rfl,hbk,hb5,hph⟩;have hbs:=hbk.stocked z;have HB6:=uT (show uR wr ((w5.setCell ⟨p.g,4,none⟩ (.int .i64 z)).setCell ⟨p.g,5,none⟩ (.int .i64 z))from hb5.trans ((bJ (bJ (Only.refl (λk=>k=p.g) w5) 4 _) 5 _).to_below (λx hx hx2 hx3=>by have:=hph p.g (.inl rfl);omega) hb5.size));have z4:w5.cell? ⟨p.g,4,none⟩=some (.int .i64 0):=hbk.blk.cell 4;have z5:w5.cell? ⟨p.g,5,none⟩=some (.int .i64 0):=hbk.blk.cell 5;have f4:=hbk.blk.frozen 4;have f5:=hbk.blk.frozen 5;obtain⟨HBS,HPH⟩:=uI hbs hph;clear hbk hb5 hph c0 c2 c4 HBN hbs hcz;go_upto_region 14 with fail;clear z4 z5 f4 f5;generalize(w5.setCell ⟨p.g,4,none⟩ (.int .i64 z)).setCell ⟨p.g,5,none⟩ (.int .i64 z)=w6 at HB6 HBS⊢;obtain⟨A6,cK,hvK,_⟩:=bE HA.s.lg.oK;subst hvK;have hown:=bI HA.s.lg.oK HB6.s;have h6c:w6.cell? ⟨y.hb,9,none⟩=some (.slice A6 j cK):=by rw[<-hyh];exact(HA.s.calm HB6.s).lg.blk.cell 9
      obtain⟨HOWN,HMQ⟩:=uI hown (show(j+1)*8<=140737488355328 by omega);have hsz:w.heap.size<=w6.heap.size:=qN HA.s.bel.size HB6.s.size;have HS6:=uT (show zBk c.tk c.n (zCr (BkS.new c.n) (c.mi.zs.getD j 0)) {BrS.new c.n with reserve:=z,ever:=z}from{yHl c.tk c.n with res:=by rw[HZK.s];show z=0+z;omega,all:=by rw[HZK.s];show z=0+z;omega});clear hown;go_wp2_with(first
       |(at_builtin;(refine bF w6 rfl (.tmp 87) (.tmp 89) _ rfl w.heap.size 93 iK _ 1 8 underlying89 hiK hzK hsK hyK rfl (by omega) (by omega) _ j _ HOWN.s rfl _ 1 _ rfl rfl rfl (by simp[Value.oneCell']) HMQ.s hsz ?_);intro g7 cap7 w7 hg7 hown7 hbel7 hgr7 hat7
         obtain⟨⟨u0,u1⟩,y3,vK3,ow3,h9,hy3⟩:=HA.s.broker HB6.s HBS.s HS6.s HPH.s hgr7 hown7 (by
          rcases hat7 with e|e
          ·exact .inl e
          ·exact .inr (by have:=HB6.s.size;omega))
         rw[hyh]at u0 u1 h9;obtain⟨H9,HY3⟩:=uI h9 (hy3.trans hyh);clear h9 hy3 hg7 hown7 hbel7 hgr7 hat7))
      go_roundw
      case rel=>exact⟨j+1,y3,vK3,ow3,by omega,by go_num,HY3.s,H9⟩
      case measure=>simp[intOf];omega
     ·obtain rfl:j=c.m:=by omega
      obtain⟨y3,ow3,h3,hp3⟩:=HA.s.lg.done HNN.s (HC.s.below HA.s.bel) HCF.s HA.s.bel.size;have HF:=uT (And.intro (h3.trans hyh) (And.intro hp3 HA.s.bel));clear h3 hp3;go_wp2_with fail;go_ret;refine⟨y3,ow3,?_,HF.s.2.1,HF.s.2.2⟩;rw[HF.s.1];rfl
end
structure PlR(w:World)(W:World)(c:Cfg)(y:fD)(S:WS)(K base:Nat)(ow:Nat->Tag)(v:Value)(outs:List Tol):Prop where
 pw:RW W c y S K base ow
 bel:uR w W
 lo:w.heap.size<=base
 out:OutT W base v outs
 vn:∀k,v.ownBlock=some k->ow k= .no
 tn:∀t∈outs,TolNo t ow
section
variable {w W W':World}{c:Cfg}{y:fD}{S S':WS}{K K' base:Nat}{ow ow':Nat->Tag}{v:Value}{outs:List Tol}
theorem PlR.turn(h:PlR w W c y S K base ow v outs)(hp:RW W' c y S' K' base ow')(hk:Kept W W' ow ow'):PlR w W' c y S' K' base ow' v outs:=by refine⟨hp,h.bel.trans ((hk.belowR h.pw).mono h.lo),h.lo,⟨hk.own h.out.1 h.vn,λt ht=> ?_⟩,λk hk2=>(hk.old k (h.out.1.lt k hk2).2).trans (h.vn k hk2),λt ht=>(h.tn t ht).turn (h.out.2 t ht) hk⟩;exact⟨hk.own (h.out.2 t ht).so (h.tn t ht _ (.inl rfl)),hk.own (h.out.2 t ht).fo (h.tn t ht _ (.inr (.inl rfl))),hk.own (h.out.2 t ht).ro (h.tn t ht _ (.inr (.inr rfl)))⟩
theorem PlR.calm(h:PlR w W c y S K base ow v outs)(hb:uR W W'):PlR w W' c y S K base ow v outs:=h.turn (h.pw.calm hb) (Kept.calm hb)
end
structure PurD where
 asked:Int
 stk:Stk
def PurD.cells(p:PurD):List Value:=[.int .i64 p.asked,.int .i64 p.stk.code,.int .i64 p.stk.id,.int .i64 p.stk.free,.int .i64 p.stk.held,.int .i64 p.stk.used]
theorem PurD.cells_len(p:PurD):p.cells.length=6:=rfl
structure PuR where
 ps:List PurD
 A:Option Addr
 c:Nat
def PuR.val(r:PuR):Value:= .slice r.A r.ps.length r.c
def Pu2(w:World)(B:Nat)(v:Value)(P:List (List PurD)):Prop:=
 ∃A c,∃rs:List PuR,v= .slice A rs.length c/\Reads w B 1 A rs.length (rs.map PuR.val)/\(∀r∈rs,Reads w B 6 r.A r.ps.length (r.ps.flatMap PurD.cells))/\rs.map (·.ps)=P
theorem Pu2.below{w w':World}{B:Nat}{v:Value}{P:List (List PurD)}(h:Pu2 w B v P)(hb:Below B w w'):Pu2 w' B v P:=by obtain⟨A,c,rs,h1,h2,h3,h4⟩:=h;exact⟨A,c,rs,h1,h2.below hb,λr hr=>(h3 r hr).below hb,h4⟩
theorem Pu2.more{w:World}{B B':Nat}{v:Value}{P:List (List PurD)}(h:Pu2 w B v P)(hb:B<=B'):Pu2 w B' v P:=by obtain⟨A,c,rs,h1,h2,h3,h4⟩:=h;exact⟨A,c,rs,h1,h2.more hb,λr hr=>(h3 r hr).more hb,h4⟩
theorem Pu2.nil(w:World)(B:Nat):Pu2 w B (.slice none 0 0) []:=⟨none,0,[],rfl,Reads.none_,λt h=>by simp at h,rfl⟩
def PuOwn(w:World)(base:Nat)(v:Value)(rs:List PuR):Prop:=w.ownsRow base 38 1 v rs.length (rs.map PuR.val)/\∀r∈rs,w.ownsRow base 42 6 r.val r.ps.length (r.ps.flatMap PurD.cells)
section
variable {w w':World}{base:Nat}{v v':Value}{rs:List PuR}
theorem PuOwn.nil(w:World)(base:Nat):PuOwn w base (.slice none 0 0) []:=⟨qH _ _ _ _,λ_ h=>by cases h⟩
theorem PuOwn.calm(h:PuOwn w base v rs)(hb:uR w w'):PuOwn w' base v rs:=⟨bI h.1 hb,λr hr=>bI (h.2 r hr) hb⟩
theorem PuOwn.push{r:PuR}(h:PuOwn w base v rs)(hr:w.ownsRow base 42 6 r.val r.ps.length (r.ps.flatMap PurD.cells))(hg:w.grownBy w' v.ownBlock)(hown:w'.ownsRow base 38 1 v' (rs.length+1) (rs.map PuR.val++[r.val])):PuOwn w' base v' (rs++[r]):=by
 refine⟨?_,λx hx=> ?_⟩
 ·rw[qM,jA];exact hown
 ·rcases jI.1 hx with h1|h1
  ·exact fP (h.2 x h1) h.1 (by decide) hg
  ·rw[jJ]at h1;subst h1;exact fP hr h.1 (by decide) hg
theorem PuOwn.far{e size n:Nat}{u:Value}{xs:List Value}{b:Nat}(h:PuOwn w base v rs)(hu:w.ownsRow b e size u n xs)(h1:38≠e)(h2:42≠e)(hg:w.grownBy w' u.ownBlock):PuOwn w' base v rs:=
 ⟨fP h.1 hu h1 hg,λr hr=>fP (h.2 r hr) hu h2 hg⟩
theorem PuOwn.rd(h:PuOwn w base v rs):Pu2 w w.heap.size v (rs.map (·.ps)):=by obtain⟨A,c,rfl,_⟩:=bE h.1;exact⟨A,c,rs,rfl,Reads.of_own h.1,λr hr=>Reads.of_own (h.2 r hr),rfl⟩
end
theorem zUr{b base size n:Nat}{e:TypeId}{v:Value}{xs:List Value}{w2 w w':World}(hc:Below b w2 w)(ho:w.ownsRow base e size v n xs)(hg:w.grownBy w' v.ownBlock)(hb:b<=base)(hw:b<=w.heap.size):Below b w2 w':=
 hc.trans (((Only.refl _ _).grown hg (D:=λk=>v.ownBlock=some k) λg hg _=>hg).to_below (λx hx _ hd=>by have:=(ho.lt x hd).1;omega) hw)
def zFj(c:Cfg)(S:WS)(i:Nat):List PurD:=(List.range c.m).map λk=>⟨(S.ask i).getD k 0,(S.sh i k).stock 0 0⟩
def resP(c:Cfg)(S:WS):List Int:=(List.range c.m).map λj=>(S.bk j).reserve
def zUa(c:Cfg)(S:WS):List (List PurD):=(List.range c.n).map (zFj c S)
def zOk(c:Cfg)(S:WS):List (List (List Ent)):=(List.range c.n).map S.st
theorem zBh{α:Type}(f:Nat->α)(k:Nat):(List.range (k+1)).map f=(List.range k).map f++[f k]:=by rw[List.range_succ,jA,List.map_singleton]
def zDh(c:Cfg)(y:Lay)(i:Nat):Value:= .slice (some ⟨(y.br i).t,0,none⟩) c.ln c.ln
theorem zPc{W:World}{c:Cfg}{y:Lay}{S:WS}{K base:Nat}{ow:Nat->Tag}(h:PW W c y S K base ow)(hl:∀i,(S.st i).length=c.ln):∀k,k<=c.n-> ∃ts:List TabR,ts.length=k/\ts.map TabR.val=(List.range k).map (zDh c y)/\ts.map (λt=>t.rs.map EnR.es)=(List.range k).map S.st/\∀t∈ts,TabRd W W.heap.size t
 |0,_=>⟨[],rfl,rfl,rfl,λt ht=>by cases ht⟩
 |k+1,hk=>by
  obtain⟨ts,h1,h2,h3,h4⟩:=zPc h hl k (by omega);obtain⟨⟨SS,s1,s2,s3⟩,_⟩:=(show k<c.n->StRow W base (y.br k).t (S.st k) (λq=>ow q= .str k)from h.pc (.str k)) (by omega);have hSS:SS.length=c.ln:=by have:=congrArg List.length s2;rw[qQ,hl k]at this;exact this
  refine⟨ts++[⟨SS,some ⟨(y.br k).t,0,none⟩,c.ln⟩],by rw[qM,h1];rfl,?_,?_,λt ht=> ?_⟩
  ·rw[zBh,jA,h2,List.map_singleton]
   congr 2
   unfold TabR.val zDh;dsimp only;rw[hSS]
  ·rw[zBh,jA,h3,List.map_singleton]
   congr 2
  ·rcases jI.1 ht with ht|ht
   ·exact h4 t ht
   ·rw[jJ]at ht;subst ht;refine⟨?_,λr hr=> ?_⟩
    ·have:=gQ s1.blk s1.blk.lt;rw[qQ]at this;exact this
    ·have hr2:=s1.rows r hr;unfold EnR.val at hr2;exact Reads.of_own hr2
theorem yDl{W:World}{c:Cfg}{y:Lay}{S:WS}{K base b:Nat}{ow:Nat->Tag}{v:Value}(h:PW W c y S K base ow)(hl:∀i,(S.st i).length=c.ln)(ho:W.ownsRow b 78 1 v c.n ((List.range c.n).map (zDh c y))):St3 W W.heap.size v (zOk c S):=by obtain⟨ts,h1,h2,h3,h4⟩:=zPc h hl c.n (qA _);obtain⟨A,cc,rfl,_⟩:=bE ho;refine⟨A,cc,ts,by rw[h1],?_,h4,h3⟩;rw[h1,h2];exact Reads.of_own ho
def EndPost(w:World)(c:Cfg)(ss:List StpI)(e:Ending)(w':World):Prop:=
 (bG c=false/\e= .returned (.tuple #[.slice none 0 0,.slice none 0 0,.slice none 0 0,.int .i64 4])/\uR w w')\/
 (bG c=true/\300<ss.length/\e= .returned (.tuple #[.slice none 0 0,.slice none 0 0,.slice none 0 0,.int .i64 1])/\uR w w')\/
 (bG c=true/\ss.length<=300/\∃A n c1 u v,e= .returned (.tuple #[.slice A n c1,u,v,.int .i64 0])/\n=c.m/\Reads w' w'.heap.size 1 A n ((resP c (zAh c ss (WS.new c)).2).map (.int .i64))/\
  Pu2 w' w'.heap.size u (zUa c (zAh c ss (WS.new c)).2)/\St3 w' w'.heap.size v (zOk c (zAh c ss (WS.new c)).2)/\uR w w')
theorem zRg:∃i,prog.info? 42=some i/\i.zero=some (.agg #[.int .i64 0,.int .i64 0,.int .i64 0,.int .i64 0,.int .i64 0,.int .i64 0])/\i.size=6/\i.bytes=48:=gB (by kernel_rfl)
theorem zOp:∃i,prog.info? 38=some i/\i.zero=some (.slice none 0 0)/\i.size=1/\i.bytes=24:=gB (by kernel_rfl)
theorem zPl:∃i,prog.info? 78=some i/\i.zero=some (.slice none 0 0)/\i.size=1/\i.bytes=24:=gB (by kernel_rfl)
theorem zUh:∃i,prog.info? 3=some i/\i.zero=some (.int .i64 0)/\i.size=1/\i.bytes=8:=gB (by kernel_rfl)
theorem All3.own{w w':World}{base b size k:Nat}{e:TypeId}{v u:Value}{ts:List TabR}{xs:List Value}(h:All3 w base v ts)(hu:w.ownsRow b e size u k xs)(h0:78≠e)(he:103≠e/\125≠e)(hg:w.grownBy w' u.ownBlock):All3 w' base v ts:=
 ⟨fP h.1 hu h0 hg,λt ht=>(h.2 t ht).own hu he hg⟩
theorem All3.push{w w':World}{base:Nat}{v v':Value}{ts:List TabR}{t:TabR}(h:All3 w base v ts)(ht:TabOwn w base t)(hg:w.grownBy w' v.ownBlock)(hown:w'.ownsRow base 78 1 v' (ts.length+1) (ts.map TabR.val++[t.val])):All3 w' base v' (ts++[t]):=by
 refine⟨?_,λx hx=> ?_⟩
 ·rw[qM,jA];exact hown
 ·rcases jI.1 hx with h1|h1
  ·exact(h.2 x h1).own h.1 (by decide) hg
  ·rw[jJ]at h1;subst h1;exact ht.own h.1 (by decide) hg
section
variable {w:World}{c:Cfg}
theorem yBg(A:Option Addr)(n cc:Nat)(ss:List StpI)(B:Nat)(hl:ss.length=n)(hm:n<=maxLen)(hr:Reads w B 8 A n (ss.flatMap StpI.cells))(hwf:∀s∈ss,zLr s)(hc:c.ok w B)(hB:B<=w.heap.size):Calls prog 11 #[c.val,.slice A n cc] w (EndPost w c ss):=by
 obtain⟨cb,hcb⟩:=kB w.heap.size;obtain⟨wx,hwx⟩:=kB (w.alloc (.cells c.cells.toArray 24));have hbx:=uH hwx;have kc:Blk wx cb 24 c.cells.toArray:=by rw[hwx,hcb];exact Blk.new _ _ _
 obtain⟨HMY,HBG⟩:=uI (λW (hW:uR w W)=>zBr c B W (hc.below (hW.mono hB)) (qN hB hW.size)) (λW (hW:uR w W) (hf:bG c=true)=>zXe ((hc.below (hW.mono hB)).more (qN hB hW.size)) hf);obtain⟨iI,hiI,hzI,hsI,hyI⟩:=zUh;obtain⟨iP,hiP,hzP,hsP,hyP⟩:=zRg;obtain⟨iQ,hiQ,hzQ,hsQ,hyQ⟩:=zOp;obtain⟨iS,hiS,hzS,hsS,hyS⟩:=zPl;have d0:wx.cell? ⟨cb,0,none⟩=some (.int .i64 c.br):=kc.cell 0;have d1:wx.cell? ⟨cb,1,none⟩=some (.slice c.la.A c.la.n c.la.c):=kc.cell 1;have d2:wx.cell? ⟨cb,2,none⟩=some (.int .i64 c.tk):=kc.cell 2;have d3:wx.cell? ⟨cb,3,none⟩=some (.slice c.mi.A c.mi.n c.mi.c):=kc.cell 3;have d4:wx.cell? ⟨cb,4,none⟩=some (.int .i64 c.cap):=kc.cell 4;obtain⟨HBX,HKC,HCB,HWX,HL,HR,HWF,HB⟩:=uO hbx kc hcb hwx hl hr hwf hB;unfold maxLen at hm;unfold Cfg.val at HMY HBG⊢;clear hbx kc hcb hwx hl hr hwf hc hB;go_enter func11,ntmps11;go_upto_region 1 with fail;rw[zRc c,<-HWX.s,<-HCB.s];cases hcf:bG c with
 |false=>
  have hmy:=HMY.s wx HBX.s;rw[hcf]at hmy;have HCF:=uT hcf;clear hcf;go_wp2_with fail;refine hmy.mono ?_;rintro _ w2 ⟨rfl,hb2⟩;have HB2:=uT hb2;clear hb2 hmy;go_wp2_with fail
  (try simp only[Exit.inBlock,Exit.then])
  refine bodyPost_ret (zDc rfl _ _ _) rfl ?_;exact .inl ⟨HCF.s,rfl,HBX.s.trans (HB2.s.mono HBX.s.size)⟩
 |true=>
  have HCF:=uT hcf;have hmy:=HMY.s wx HBX.s;rw[hcf]at hmy;clear hcf;go_wp2_with fail;refine hmy.mono ?_;rintro _ w2 ⟨rfl,hb2⟩;have hx2:=HBX.s.trans (hb2.mono HBX.s.size);obtain⟨HX2,HX2w⟩:=uI hx2 hb2.size;have kc2:=HKC.s.below hb2 HKC.s.lt;have e0:w2.cell? ⟨cb,0,none⟩=some (.int .i64 c.br):=kc2.cell 0;have e1:w2.cell? ⟨cb,1,none⟩=some (.slice c.la.A c.la.n c.la.c):=kc2.cell 1;have e2:w2.cell? ⟨cb,2,none⟩=some (.int .i64 c.tk):=kc2.cell 2;have e3:w2.cell? ⟨cb,3,none⟩=some (.slice c.mi.A c.mi.n c.mi.c):=kc2.cell 3;have e4:w2.cell? ⟨cb,4,none⟩=some (.int .i64 c.cap):=kc2.cell 4;clear hb2 hmy d0 d1 d2 d3 d4 hx2 kc2;by_cases h300:300<n
  ·have HN:=uT (show 300<ss.length by rw[HL.s];exact h300);have hgt:decide ((n:Int)>300)=true:=by simp;omega
   go_wp2_with fail
   (try simp only[Exit.inBlock,Exit.then])
   refine bodyPost_ret (zDc rfl _ _ _) rfl ?_;exact .inr (.inl ⟨HCF.s,HN.s,rfl,HX2.s⟩)
  ·have hgt:decide ((n:Int)>300)=false:=by simp;omega
   have hn300:n<=300:=by omega
   have HBN:=uT (HBG.s w2 HX2.s HCF.s);go_wp2_with fail;refine HBN.s.mono ?_;rintro _ w3 ⟨y,ow,rfl,hp3,hb3⟩;have HP0:=uT (show PlR w w3 c y (zAh c (ss.take 0) (WS.new c)).2 0 w2.heap.size ow (.slice none 0 0) []from⟨hp3,HX2.s.trans (hb3.mono HX2.s.size),HX2.s.size,OutT.nil _ _,λk hk=>(by cases hk),λt ht=>(by cases ht)⟩);obtain⟨base,hbase⟩:=kB w2.heap.size;rw[<-hbase]at HP0;have HCL:=uT (show cb<base by rw[hbase];exact(show cb<w2.heap.size from jQ HKC.s.lt HX2w.s));have HCE:=uT (show w3.cell? ⟨cb,0,none⟩=some (.int .i64 c.br)from(hb3.cell (p:=⟨cb,0,none⟩) (by rw[<-hbase];exact HCL.s)).trans e0);clear hp3 hb3 e0 e1 e2 e3 e4 hbase HBN;go_wp2_with fail
   go_loopw [30] (λi wr=>∃(k:Nat) (ow:Nat->Tag),k<=n/\i= .int .i64 k/\uS (PlR w wr c y (zAh c (ss.take k) (WS.new c)).2 k base ow (.slice none 0 0) [])/\uS (wr.cell? ⟨cb,0,none⟩=some (.int .i64 c.br))) (λi _=>n-(intOf i).toNat)
   case atStart=>exact⟨0,ow,qL _,rfl,HP0,HCE⟩
   case round=>
    obtain⟨k,ow,hk,rfl,HA,HCE⟩:=hrel;by_cases hlt:k<n
    ·have hlt':(k:Int)<(n:Int):=by omega
     obtain⟨bt,ot,s,rfl,hbt,hs,hct⟩:=fB StpI.cells_len (by omega) ((HR.s.below (HA.s.bel.mono HB.s))) hlt HL.s;have z0:wr.cell? ⟨bt,ot+k*8,none⟩=some (.int .i64 s.kind):=hct 0 _ rfl;have z1:wr.cell? ⟨bt,ot+k*8+1,none⟩=some (.int .i64 s.who):=hct 1 _ rfl;have z2:wr.cell? ⟨bt,ot+k*8+2,none⟩=some (.int .i64 s.item):=hct 2 _ rfl;have z3:wr.cell? ⟨bt,ot+k*8+3,none⟩=some (.int .i64 s.count):=hct 3 _ rfl;have z4:wr.cell? ⟨bt,ot+k*8+4,none⟩=some (.int .i64 s.life):=hct 4 _ rfl;have z5:wr.cell? ⟨bt,ot+k*8+5,none⟩=some (.int .i64 s.id):=hct 5 _ rfl;have z6:wr.cell? ⟨bt,ot+k*8+6,none⟩=some (.int .i64 s.label):=hct 6 _ rfl;have z7:wr.cell? ⟨bt,ot+k*8+7,none⟩=some (.int .i64 s.key):=hct 7 _ rfl;obtain⟨w4,hw4⟩:=kB (wr.alloc (.cells #[.int .i64 s.kind,.int .i64 s.who,.int .i64 s.item,.int .i64 s.count,.int .i64 s.life,.int .i64 s.id,.int .i64 s.label,.int .i64 s.key] 48));obtain⟨sb,hsb⟩:=kB wr.heap.size;have hb4:=uH hw4;have k4:Blk w4 sb 48 #[.int .i64 s.kind,.int .i64 s.who,.int .i64 s.item,.int .i64 s.count,.int .i64 s.life,.int .i64 s.id,.int .i64 s.label,.int .i64 s.key]:=by rw[hw4,hsb];exact Blk.new _ _ _
     have h4:=HA.s.calm hb4;have hI:=StIn.run HCF.s (ss.take k) (WS.new c) 0 (StIn.new HCF.s);rw[Nat.zero_add,qY,Nat.min_eq_left (by rw[HL.s];omega)]at hI;have HST:=uT (land_any h4.pw hI (by omega) s (HWF.s s (qB hs)));unfold StpI.val at HST;obtain⟨HRT,H4,HCE4,HW4,HSB⟩:=uL (zUo c (WS.new c) ss k s hs) h4 ((hb4.cell (p:=⟨cb,0,none⟩) (jQ HCL.s HA.s.pw.bw)).trans HCE.s) hw4 hsb;have x0:w4.cell? ⟨sb,0,none⟩=some (.int .i64 s.kind):=k4.cell 0;have x1:w4.cell? ⟨sb,1,none⟩=some (.int .i64 s.who):=k4.cell 1;have x2:w4.cell? ⟨sb,2,none⟩=some (.int .i64 s.item):=k4.cell 2;have x3:w4.cell? ⟨sb,3,none⟩=some (.int .i64 s.count):=k4.cell 3;have x4:w4.cell? ⟨sb,4,none⟩=some (.int .i64 s.life):=k4.cell 4;have x5:w4.cell? ⟨sb,5,none⟩=some (.int .i64 s.id):=k4.cell 5;have x6:w4.cell? ⟨sb,6,none⟩=some (.int .i64 s.label):=k4.cell 6;have x7:w4.cell? ⟨sb,7,none⟩=some (.int .i64 s.key):=k4.cell 7;clear hw4 hsb hb4 k4 h4 hI hs hct hbt;go_upto_region 9 with fail;rw[<-HW4.s,<-HSB.s];clear z0 z1 z2 z3 z4 z5 z6 z7;go_wp2_with fail;refine HST.s.mono ?_;rintro _ w5 ⟨t,rfl,hd,hto,ow5,hp5,hk5,hn5⟩;have h5:=H4.s.turn hp5 hk5;obtain⟨HCE5,H5⟩:=uI (((hk5.belowR H4.s.pw).cell (p:=⟨cb,0,none⟩) HCL.s).trans HCE4.s) h5;clear hp5 hk5 hto hn5 hd h5 x0 x1 x2 x3 x4 x5 x6 x7;go_wp2_with fail;go_roundw
     case rel=>exact⟨k+1,ow5,by omega,by go_num,by rw[HRT.s];exact H5,HCE5⟩
     case measure=>simp[intOf];omega
    ·obtain rfl:k=n:=by omega
     have HF:=uT (show ss.take k=ss from qS (by rw[HL.s];exact qA _));rw[HF.s]at HA;obtain⟨w1,hw1⟩:=kB wr;rw[<-hw1]at HA HCE⊢;clear hw1;obtain⟨S,hS⟩:=kB ((zAh c ss (WS.new c)).2);have hSok:S.ok c (0+ss.length):=by rw[hS];exact zLd HCF.s ss (WS.new c) 0 (zLh HCF.s)
     rw[<-hS]at HA;obtain⟨⟨hn1,hn2,hn8⟩,hln,_,⟨hm1,hm3⟩,_⟩:=bK HCF.s;have hp:=HA.s.pw;have HW:=uT hp;have HBL:=uT HA.s.bel;obtain⟨v0,hl0⟩:=hp.land;have con:=(show RCon w1 c y (λk=>ow k= .con)from hp.pc .con);obtain⟨kcs,kk1,kk2⟩:=con.bks;obtain⟨HK1,HSE,HOK,HN⟩:=uK (And.intro kk1 kk2) hS hSok (show ss.length<=300 by rw[HL.s];exact hn300);obtain⟨nn,hnn⟩:=kB c.n;obtain⟨mm,hmm⟩:=kB c.m;have hbr:c.br=(nn:Int):=by rw[hnn];exact hn1
     rw[<-hnn]at hn2 hn8;rw[<-hmm]at hm1 hm3;obtain⟨HNN,HMM⟩:=uI hnn hmm;obtain⟨b1,hb1⟩:=kB w1.heap.size;obtain⟨HBB,HCB0,HCL1⟩:=uJ hb1 (show w1.cell? ⟨cb,0,none⟩=some (.int .i64 nn)by rw[<-hbr];exact HCE.s) (jQ HCL.s hp.bw);have c9:w1.cell? ⟨y.hb,9,none⟩=some (.slice (some ⟨y.kb,0,none⟩) mm y.kc):=by rw[hmm];exact hl0.cell 9
     obtain⟨HR0,HBE0⟩:=uI (show w1.ownsRow b1 3 1 (.slice none 0 0) 0 (((List.range 0).map λj=>(S.bk j).reserve).map (.int .i64))from qH _ _ _ _) (show Below b1 w1 w1 from qC _ _);clear hS hSok hp con kk1 kk2 hl0 hn1 hln hnn hmm hb1 hbr HP0 HCE HKC HMY HBG HA;go_wp2_with fail
     go_loopw [11,43] (λr i wr=>∃j:Nat,j<=mm/\i= .int .i64 j/\uS (wr.ownsRow b1 3 1 r j (((List.range j).map λj=>(S.bk j).reserve).map (.int .i64)))/\uS (Below b1 w1 wr)) (λ_ i _=>mm-(intOf i).toNat)
     case atStart=>exact⟨0,qL _,rfl,HR0,HBE0⟩
     case round=>
      obtain⟨j,hj,rfl,HR,HBE⟩:=hrel;by_cases hlt:j<mm
      ·have hji:(j:Int)<(mm:Int):=by omega
       have hbe:=HBE.s;rw[HBB.s]at hbe;have hpw:=HW.s.calm hbe;obtain⟨p,rr,hpg,hbk,hsb,_⟩:=((show j<c.m->BrRow wr base (y.bg j) c.n c.cap c.tk (S.bk j) (λk=>ow k= .bk j)from hpw.pc (.bk j)) (by rw[<-HMM.s];exact hlt)).at_;have e1:wr.cell? ⟨y.kb,j,none⟩=some (.pointer (some ⟨y.bg j,0,none⟩)):=((HK1.s.1.below hbe HK1.s.1.lt).cell j).trans (HK1.s.2 j (by rw[<-HMM.s];exact hlt));have e2:wr.cell? ⟨y.bg j,4,none⟩=some (.int .i64 (S.bk j).reserve):=by rw[<-hpg,<-hsb.res];exact hbk.blk.cell 4
       obtain⟨rA,rc,hv,_⟩:=bE HR.s;subst hv;have HMQ:=uT (show(j+1)*8<=140737488355328 by omega);have hsz:b1<=wr.heap.size:=by rw[HBB.s];exact hbe.size
       clear hbe hpw hpg hbk hsb;go_wp2_with(first
        |(at_builtin;(refine bF wr rfl (.tmp 47) (.tmp 52) _ rfl b1 3 iI _ 1 8 underlying22 hiI hzI hsI hyI rfl (by omega) (by omega) _ j _ HR.s rfl _ 1 _ rfl rfl rfl (by simp[Value.oneCell']) HMQ.s hsz ?_);intro g7 cap7 w7 hg7 hown7 hbel7 hgr7 hat7
          obtain⟨HR7,HB7⟩:=uI (show w7.ownsRow b1 3 1 (.slice (some ⟨g7,0,none⟩) (j+1) cap7) (j+1) (((List.range (j+1)).map λj=>(S.bk j).reserve).map (.int .i64))by rw[zBh,jA];exact hown7) (hbel7 b1 w1 (qA _) HBE.s);clear hg7 hown7 hbel7 hgr7 hat7))
       go_roundw
       case rel=>exact⟨j+1,by omega,by go_num,HR7,HB7⟩
       case measure=>simp[intOf];omega
      ·obtain rfl:mm=j:=by omega
       obtain⟨b2,hb2⟩:=kB wr.heap.size;obtain⟨w2,hw2⟩:=kB wr;rw[<-hw2]at HR HBE hb2⊢;clear hw2;have hbe:=HBE.s;rw[HBB.s]at hbe;obtain⟨HW2,HBL2,HB2,HCB2,HCL2,HP0,HS0,HC0,HD0,HE0⟩:=uQ (HW.s.calm hbe) (HBL.s.trans (hbe.mono HBL.s.size)) hb2 ((hbe.cell (p:=⟨cb,0,none⟩) HCL1.s).trans HCB0.s) (jQ HCL1.s hbe.size) (PuOwn.nil w2 b2) (show All3 w2 b2 (.slice none 0 0) []from⟨qH _ _ _ _,λt ht=>by cases ht⟩) (show Below b2 w2 w2 from qC _ _) (show([]:List PuR).map (·.ps)=(List.range 0).map (zFj c S)from rfl) (show([]:List TabR).map (λt=>t.rs.map EnR.es)=(List.range 0).map S.st from rfl);clear hbe c9 hb2 HBE0 HR0;go_wp2_with fail
       go_loopw [14,15,16] (λp s i wr=>∃(k:Nat) (rs:List PuR) (ts:List TabR),k<=nn/\i= .int .i64 k/\uS (PuOwn wr b2 p rs)/\uS (rs.map (·.ps)=(List.range k).map (zFj c S))/\uS (All3 wr b2 s ts)/\uS (ts.map (λt=>t.rs.map EnR.es)=(List.range k).map S.st)/\uS (Below b2 w2 wr)) (λ_ _ i _=>nn-(intOf i).toNat)
       case atStart=>exact⟨0,[],[],qL _,rfl,HP0,HD0,HS0,HE0,HC0⟩
       case round=>
        obtain⟨k,rs,ts,hk,rfl,HP,HD,HS,HE,HC⟩:=hrel;have hc2:=HC.s;rw[HB2.s]at hc2;have ecb:wr.cell? ⟨cb,0,none⟩=some (.int .i64 nn):=(hc2.cell (p:=⟨cb,0,none⟩) HCL2.s).trans HCB2.s;by_cases hlt:k<nn
        ·have hki:(k:Int)<(nn:Int):=by omega
         have hkc:k<c.n:=by rw[<-HNN.s];exact hlt
         obtain⟨w3,hw3⟩:=kB wr;rw[<-hw3]at HP HS HC hc2 ecb⊢;clear hw3;have hpw:=HW2.s.calm hc2;obtain⟨v0,hl0⟩:=hpw.land;have con:=(show RCon w3 c y (λk=>ow k= .con)from hpw.pc .con);obtain⟨rcs,rk1,rk2⟩:=con.rr;have e0:w3.cell? ⟨y.hb,5,none⟩=some (.slice (some ⟨y.rb,0,none⟩) nn y.rc):=by rw[HNN.s];exact hl0.cell 5
         have e1:w3.cell? ⟨y.rb,k,none⟩=some (.slice (some ⟨y.r k,0,none⟩) mm mm):=by rw[HMM.s];exact(rk1.cell k).trans (rk2 k hkc)
         obtain⟨b3,hb3⟩:=kB w3.heap.size;obtain⟨HB3,HPW,hmr,hm0⟩:=uK hb3 hpw (show w3.ownsRow b3 42 6 (.slice none 0 0) 0 (((List.range 0).map λq=>(⟨(S.ask k).getD q 0,(S.sh k q).stock 0 0⟩:PurD)).flatMap PurD.cells)from qH _ _ _ _) (show Below b3 w3 w3 from qC _ _);clear hc2 hpw hl0 con rk1 rk2 hb3;go_wp2_with fail
         go_loopw [17,69] (λv i wr=>∃q:Nat,q<=mm/\i= .int .i64 q/\uS (wr.ownsRow b3 42 6 v q (((List.range q).map λq=>(⟨(S.ask k).getD q 0,(S.sh k q).stock 0 0⟩:PurD)).flatMap PurD.cells))/\uS (Below b3 w3 wr)) (λ_ i _=>mm-(intOf i).toNat)
         case atStart=>exact⟨0,qL _,rfl,hmr,hm0⟩
         case round=>
          obtain⟨q,hq,rfl,HMR,HMB⟩:=hrel;by_cases hlq:q<mm
          ·have hqi:(q:Int)<(mm:Int):=by omega
           have hqc:q<c.m:=by rw[<-HMM.s];exact hlq
           have hmb:=HMB.s;rw[HB3.s]at hmb;have hpw:=HPW.s.calm hmb;obtain⟨v0,hl0⟩:=hpw.land;have con:=(show RCon wr c y (λk=>ow k= .con)from hpw.pc .con);obtain⟨rcs,rk1,rk2⟩:=con.rr;obtain⟨acs,ak1,ak2⟩:=con.ra;obtain⟨hrow,_,_⟩:=(show k<c.n->NumRow wr base (y.a k) (S.ask k) (λq=>ow q= .ask k)from hpw.pc (.ask k)) hkc;obtain⟨⟨cs,rk,vc,vl,hrk,_⟩,_⟩:=(show k<c.n->RkRow wr base (y.r k) c.m (S.sh k) _ (λq=>ow q= .sh k)from hpw.pc (.sh k)) hkc;obtain⟨hra,⟨hsame,hrok⟩,_⟩:=hrk q hqc;have HHE:=uT (λn:Ext wr=>zGe base (y.r k) (q*4) cs (rk q) (vc q) (vl q) n.W _ (hra.calm n.h) hrok (by omega));have g0:wr.cell? ⟨y.hb,5,none⟩=some (.slice (some ⟨y.rb,0,none⟩) nn y.rc):=by rw[HNN.s];exact hl0.cell 5
           have g1:wr.cell? ⟨y.rb,k,none⟩=some (.slice (some ⟨y.r k,0,none⟩) mm mm):=by rw[HMM.s];exact(rk1.cell k).trans (rk2 k hkc)
           have f0:=λn:Ext wr=>n.cell (show wr.cell? ⟨y.hb,6,none⟩=some (.slice (some ⟨y.ab,0,none⟩) nn y.ac)by rw[HNN.s];exact hl0.cell 6)
           have f1:=λn:Ext wr=>n.cell (show wr.cell? ⟨y.ab,k,none⟩=some (.slice (some ⟨y.a k,0,none⟩) mm mm)by rw[HMM.s];exact(ak1.cell k).trans (ak2 k hkc))
           have f2:=λn:Ext wr=>n.cell (hrow.cell (bX (HOK.s.ask k).1 hqc))
           have f3:=λn:Ext wr=>n.cell hra.c0
           have f4:=λn:Ext wr=>n.cell hra.c1
           obtain⟨r1,hr1⟩:=kB (rk q);obtain⟨ak,hak⟩:=kB ((S.ask k).getD q 0);rw[<-hr1]at HHE f3 f4 hsame;rw[<-hak]at f2;have HEL:=uT (And.intro (zQu hsame 0 0) hak);obtain⟨mA,mc,hv,_⟩:=bE HMR.s;subst hv;have HMQ:=uT (show(q+1)*48<=140737488355328 by omega);have hsz:b3<=wr.heap.size:=by rw[HB3.s];exact hmb.size
           clear hmb hpw hl0 con rk1 rk2 ak1 ak2 hrow hrk hra hsame hrok hr1 hak e0 e1;go_upto_region 27 with fail;refine bO [0] [1,2,3,4,5,6,7,8,9,10,11,12,13,14,15,17,18,19,20] [16] [21,22,23] 24 [25] (by kernel_rfl) (by kernel_rfl) (by intro c a d v w h;cases d<;>exact h) ?_;simp only[bB,qJ,qO,qD,qE]
           repeat(go_big_quiet_step (fail))
           refine qF ?_
           repeat(go_big_quiet_step (fail))
           refine qF ?_
           repeat(go_big_quiet_step ((go_at_call 28;exact fT ((HHE.s _).mono λe w' (h:e= .returned (.int .i64 (cJ r1.rows))/\_=w')=>And.intro h.1 (by rw[<-h.2];exact qC _ _)))))
           refine qF ?_;rintro W ⟨nq,hW⟩;have hWB:uR wr W:=hW▸nq.h;clear hW;obtain⟨HMR2,HMB2⟩:=uI (bI HMR.s hWB) (HMB.s.trans (hWB.mono hsz));have hsz2:b3<=W.heap.size:=qN hsz hWB.size;clear f0 f1 f2 f3 f4 g0 g1 hsz;simp only[fJ];go_wp2_with fail;refine⟨⟨⟨_,hWB⟩,rfl⟩,?_⟩;go_wp2_with fail;refine⟨⟨⟨_,hWB⟩,rfl⟩,?_⟩;go_wp2_with fail;refine⟨⟨⟨_,hWB.alloc hWB.size _⟩,rfl⟩,?_⟩;clear hWB;go_wp2_with(first
            |(at_builtin;(refine bF W rfl (.tmp 81) (.tmp 104) _ rfl b3 42 iP _ 6 48 underlying38 hiP hzP hsP hyP rfl (by omega) (by omega) _ q _ HMR2.s rfl _ 1 _ rfl rfl rfl (by simp[Value.oneCell']) HMQ.s hsz2 ?_);intro g7 cap7 w7 hg7 hown7 hbel7 hgr7 hat7
              obtain⟨HR7,HB7⟩:=uI (show w7.ownsRow b3 42 6 (.slice (some ⟨g7,0,none⟩) (q+1) cap7) (q+1) (((List.range (q+1)).map λq=>(⟨(S.ask k).getD q 0,(S.sh k q).stock 0 0⟩:PurD)).flatMap PurD.cells)by rw[zBh,jN,List.flatMap_singleton,HEL.s.1,<-HEL.s.2];exact hown7) (hbel7 b3 w3 (qA _) HMB2.s);clear hg7 hown7 hbel7 hgr7 hat7))
           go_roundw
           case rel=>exact⟨q+1,by omega,by go_num,HR7,HB7⟩
           case measure=>simp[intOf];omega
          ·obtain rfl:mm=q:=by omega
           have hmb:=HMB.s;rw[HB3.s]at hmb;have hcw:=HC.s.trans (hmb.mono (by rw[HB2.s];exact HC.s.size));obtain⟨HC4,HP4,HS4⟩:=uJ hcw (HP.s.calm hmb) (HS.s.calm hmb);have hsz4:b2<=wr.heap.size:=by rw[HB2.s];exact hcw.size
           obtain⟨mA,mc,hv,_⟩:=bE HMR.s;subst hv;obtain⟨pr,hpr⟩:∃pr:PuR,pr=⟨zFj c S k,mA,mc⟩:=⟨_,rfl⟩;have hrl:pr.ps.length=mm:=by rw[hpr];unfold zFj;rw[qQ,List.length_range,HMM.s]
           have hrv:pr.val= .slice mA mm mc:=by unfold PuR.val;rw[hrl,hpr]
           have hro:wr.ownsRow b2 42 6 pr.val pr.ps.length (pr.ps.flatMap PurD.cells):=by rw[hrv,hrl,hpr];unfold zFj;rw[<-HMM.s];exact dU HMR.s (by rw[HB3.s,HB2.s];exact HC.s.size)
           obtain⟨HRO,HRV,HPR⟩:=uJ hro hrv hpr;have hkl:rs.length=k:=by have:=congrArg List.length HD.s;rw[qQ,qQ,List.length_range]at this;exact this
           have htl:ts.length=k:=by have:=congrArg List.length HE.s;rw[qQ,qQ,List.length_range]at this;exact this
           obtain⟨HKL,HTL,HMQ⟩:=uJ hkl htl (show(k+1)*24<=140737488355328 by omega);obtain⟨pA,pc,hv,_⟩:=bE HP4.s.1;subst hv;obtain⟨sA,sc,hv,_⟩:=bE HS4.s.1;subst hv;have hp4:=HP4.s.1;have hs4:=HS4.s.1;rw[hkl]at hp4 HP4⊢;rw[htl]at hs4 HS4⊢;obtain⟨HP41,HLI⟩:=uI hp4 (λW (hW:Below b2 w2 W)=>zVc (HW2.s.calm (by rw[HB2.s]at hW;exact hW)) k hkc (HOK.s.st k));clear hmb hcw hpr hrl hrv hro hkl htl hp4 hs4 HMR HMB e0 e1;go_wp2_with(first
            |(at_builtin;(refine bF wr rfl (.tmp 107) (.tmp 109) _ rfl b2 38 iQ _ 1 24 underlying32 hiQ hzQ hsQ hyQ rfl (by omega) (by omega) _ k _ HP41.s rfl _ 1 _ rfl rfl rfl (by simp[Value.oneCell']) HMQ.s hsz4 ?_);intro g7 cap7 w7 hg7 hown7 hbel7 hgr7 hat7
              obtain⟨HP7,HS7,HC7⟩:=uJ (HP4.s.push HRO.s hgr7 (by rw[HKL.s,HRV.s];exact hown7)) (HS4.s.own HP41.s (by decide) (by decide) hgr7) (hbel7 b2 w2 (qA _) HC4.s);clear hg7 hown7 hbel7 hgr7 hat7))
           refine(HLI.s w7 HC7.s).mono ?_;rintro _ w8 ⟨t,rfl,hte,hto,hb8⟩;have hsz7:b2<=w7.heap.size:=by rw[HB2.s];exact HC7.s.size
           obtain⟨HP8,HS8,HC8,HTO,HTE⟩:=uL (HP7.s.calm hb8) (HS7.s.calm hb8) (HC7.s.trans (hb8.mono hsz7)) (hto.mono hsz7) hte;have hsz8:b2<=w8.heap.size:=qN hsz7 hb8.size;have HS81:=uT (by have h:=HS8.s.1;rw[HTL.s]at h;exact h);unfold TabR.val;clear hte hto hb8 hsz7 HP7 HS7 HC7 HP4 HS4 HC4 HP41;go_wp2_with(first
            |(at_builtin;(refine bF w8 rfl (.tmp 111) (.tmp 115) _ rfl b2 78 iS _ 1 24 underlying33 hiS hzS hsS hyS rfl (by omega) (by omega) _ k _ HS81.s rfl _ 1 _ rfl rfl rfl (by simp[Value.oneCell']) HMQ.s hsz8 ?_);intro g9 cap9 w9 hg9 hown9 hbel9 hgr9 hat9
              obtain⟨HS9,HP9,HC9⟩:=uJ (HS8.s.push HTO.s hgr9 (by rw[HTL.s];exact hown9)) (HP8.s.far HS81.s (by decide) (by decide) hgr9) (hbel9 b2 w2 (qA _) HC8.s);clear hg9 hown9 hbel9 hgr9 hat9))
           go_roundw
           case rel=>exact⟨k+1,rs++[pr],ts++[t],by omega,by go_num,HP9,uT (by rw[zBh,jA,HD.s,List.map_singleton,HPR.s]),HS9,uT (by rw[zBh,jA,HE.s,List.map_singleton,HTE.s]),HC9⟩
           case measure=>simp[intOf];omega
        ·obtain rfl:nn=k:=by omega
         obtain⟨rA,rc,hv,_⟩:=bE HR.s;subst hv;have hrr:=bI HR.s hc2;have hpu:=HP.s.rd;rw[HD.s]at hpu;have hst:=HS.s.st3;rw[HE.s]at hst;rw[HNN.s]at hst hpu;have HFIN:=uT (show EndPost w c ss (.returned (.tuple #[.slice rA mm rc,u14,u15,.int .i64 0])) wr from
          .inr (.inr ⟨HCF.s,HN.s,rA,mm,rc,u14,u15,rfl,HMM.s,by rw[<-HSE.s];unfold resP;rw[<-HMM.s];exact Reads.of_own hrr,by rw[<-HSE.s];exact hpu,by rw[<-HSE.s];exact hst,HBL2.s.trans (hc2.mono HBL2.s.size)⟩))
         clear hc2 hrr hpu hst;go_wp2_with fail
         (try simp only[Exit.inBlock,Exit.then])
         refine bodyPost_ret (zDc rfl _ _ _) rfl ?_;exact HFIN.s
end
end Go.Proofs.YtbolcebmbpepdaaGreatDoor
