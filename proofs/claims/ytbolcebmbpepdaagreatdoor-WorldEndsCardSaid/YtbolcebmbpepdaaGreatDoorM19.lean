/- Contracts. Conditions: those each states. -/
import Derived.Test.YtbolcebmbpepdaaGreatDoorM18
import Derived.Test.YtbolcebmbpepdaaGreatDoorM16
namespace Go.Proofs.YtbolcebmbpepdaaGreatDoor
set_option maxRecDepth 100000
set_option maxHeartbeats 8000000
set_option linter.all false
open Go.RowKit Tryz
theorem zZf(A A':Option Addr)(n c n' c':Nat)(a b:List Ent)(B:Nat)(w:World)(hl:a.length=n)(hm:n*40<=140737488351232)(hr:Reads w B 5 A n (a.flatMap bD))(hl':b.length=n')(hm':n'*40<=140737488351232)(hr':Reads w B 5 A' n' (b.flatMap bD))(hB:B<=w.heap.size):Calls prog 115 #[.slice A n c,.slice A' n' c'] w λe w'=>EntsPost (dY a b) e w w':=by
 have hmx:n<=maxLen:=by unfold maxLen;omega
 have hmx':n'<=maxLen:=by unfold maxLen;omega
 obtain⟨H1,H2,H3,HL,HL',HR'⟩:=uM (zIh A n c a B w hl hmx hr hB) (λw1 (hb:uR w w1)=>zIh A' n' c' b w.heap.size w1 hl' hmx' ((hr'.more hB).below hb) hb.size) (λw1 (hb:uR w w1)=>zZw A n c a w.heap.size w1 hl hm ((hr.more hB).below hb) hb.size) hl hl' (hr'.more hB);clear hl hr hl' hr';cases hmay:bU a with
 |false=>have HF:=uT (show dY a b=([],4)by rw[dY,hmay];rfl);rw[hmay]at H1;clear hmay;go_enter func115,ntmps115;go_wp2_with fail;refine H1.s.mono ?_;rintro _ w1 ⟨rfl,hb1⟩;have HB1:=uT hb1;clear hb1;go_wp2_with fail;go_ret2;rw[HF.s];exact⟨_,rfl,qH _ _ _ _,HB1.s⟩
 |true=>
 cases hmay':bU b with
 |false=>have HF:=uT (show dY a b=([],4)by rw[dY,hmay,hmay'];rfl);rw[hmay]at H1;rw[hmay']at H2;clear hmay hmay';go_enter func115,ntmps115;go_wp2_with fail;refine H1.s.mono ?_;rintro _ w1 ⟨rfl,hb1⟩;have HB1:=uT hb1;clear hb1;go_wp2_with fail;refine(H2.s w1 HB1.s).mono ?_;rintro _ w2 ⟨rfl,hb2⟩;have HB2:=uT (HB1.s.trans (hb2.mono HB1.s.size));clear hb2;go_wp2_with fail;go_ret2;rw[HF.s];exact⟨_,rfl,qH _ _ _ _,HB2.s⟩
 |true=>
  have HF:=uT (show dY a b=if 8<(b.foldl gI a).length then([],8)else(b.foldl gI a,0)by rw[dY,hmay,hmay'];rfl);obtain⟨sa,ka,la,_⟩:=gX hmay;obtain⟨sb,kb,lb,_⟩:=gX hmay';obtain⟨HFA,HKB⟩:=uI (λj=>zRa (b.take j) (λx hx=>kb x (List.mem_of_mem_take hx)) a sa ka) kb;have hn8:n<=8:=by rw[<-HL.s];exact la
  have hn8':n'<=8:=by rw[<-HL'.s];exact lb
  rw[hmay]at H1;rw[hmay']at H2;clear hmay hmay' sa ka la sb kb lb;go_enter func115,ntmps115;go_wp2_with fail;refine H1.s.mono ?_;rintro _ w1 ⟨rfl,hb1⟩;have HB1:=uT hb1;clear hb1;go_wp2_with fail;refine(H2.s w1 HB1.s).mono ?_;rintro _ w2 ⟨rfl,hb2⟩;have HB2:=uT (HB1.s.trans (hb2.mono HB1.s.size));clear hb2;go_wp2_with fail;refine(H3.s w2 HB2.s).mono ?_;rintro _ w3 ⟨v3,rfl,hown3,hb3⟩;obtain⟨HB3,HO3⟩:=uI (HB2.s.trans (hb3.mono HB2.s.size)) (hown3.mono HB2.s.size);clear hown3 hb3;go_wp2_with fail
  go_loopw [6,23] (λv i wr=>∃(j:Nat) (L:List Ent),j<=n'/\i= .int .i64 j/\uS (L=(b.take j).foldl gI a)/\uS (wr.ownsRow w.heap.size 125 5 v L.length (L.flatMap bD))/\uR w wr) (λ_ i _=>n'-(intOf i).toNat)
  case atStart=>exact⟨0,a,qL _,rfl,rfl,by rw[HL.s];exact HO3,HB3.s⟩
  case round=>
   obtain⟨j,L,hj,rfl,HLE,HOL,hb⟩:=hrel;obtain⟨sL,kL,lL⟩:=HFA.s j;rw[<-HLE.s]at sL kL lL;have hq16:L.length<=16:=by rw[qY,HL.s,HL'.s]at lL;omega
   obtain⟨q,hq⟩:=kB L.length;have HQ:=uT hq.symm;obtain⟨AL,cL,rfl,_⟩:=bE HOL.s;rw[<-hq]at hq16;rw[<-hq];rw[<-hq]at HOL;have hsz:=hb.size;by_cases hlt:j<n'
   ·obtain⟨bx,o,e,rfl,_,he,hc⟩:=fB cN (by omega) (HR'.s.below hb) hlt HL'.s;have e0:wr.cell? ⟨bx,o+j*5,none⟩=some (.int .i64 e.key):=hc 0 _ rfl;have e1:wr.cell? ⟨bx,o+j*5+1,none⟩=some (.int .i64 e.value):=hc 1 _ rfl;have e2:wr.cell? ⟨bx,o+j*5+2,none⟩=some (.int .i64 e.time):=hc 2 _ rfl;have e3:wr.cell? ⟨bx,o+j*5+3,none⟩=some (.int .i64 e.who):=hc 3 _ rfl;have e4:wr.cell? ⟨bx,o+j*5+4,none⟩=some (.bool e.gone):=hc 4 _ rfl;have hke:=HKB.s e (qB he);have hjn:(j:Int)<(n':Int):=by omega
    have HSU:=uT (show(b.take (j+1)).foldl gI a=gI L e by rw[dB b j e he,List.foldl_append,<-HLE.s];rfl);obtain⟨w5,hw5⟩:=kB (wr.alloc (.cells (bD e).toArray 125));have hb5:=uH hw5;have k5:Blk w5 wr.heap.size 125 (bD e).toArray:=by rw[hw5];exact Blk.new wr 125 _
    have ho5:=bI HOL.s hb5;obtain⟨HSE,HHAD,HNEW,HPL,HOW5,HK5,HB5⟩:=uN (zWr AL q cL L e.key w5.heap.size w5 HQ.s (by omega) (Reads.of_own ho5) (qA _) sL kL hke) (insE_had L e sL) (insE_new L e sL) (yCi L e.key) ho5 k5 (hb.trans (hb5.mono hsz));obtain⟨p,hp⟩:=kB (zCd L e.key);rw[<-hp]at HSE HHAD HNEW HPL;have HW5:uS (w5=wr.alloc (.cells #[.int .i64 e.key,.int .i64 e.value,.int .i64 e.time,.int .i64 e.who,.bool e.gone] 125)):=hw5;clear hc he hb hw5 hb5 k5 ho5 sL kL lL hp HLE hq;go_upto_region 7 with fail;rw[<-HW5.s];have q0:w5.cell? ⟨wr.heap.size,0,none⟩=some (.int .i64 e.key):=HK5.s.cell 0;go_wp2_with fail;refine HSE.s.mono ?_;rintro _ w6 ⟨rfl,hb6⟩;obtain⟨HK6,HO6,HB6⟩:=uJ (HK5.s.below hb6 HK5.s.lt) (bI HOW5.s hb6) (HB5.s.trans (hb6.mono HB5.s.size));clear hb6 q0 e0 e1 e2 e3 e4;cases hhad:zJb L e.key with
    |false=>
     have HI:=uT (HNEW.s hhad);rw[hhad]at HSE;clear hhad;have r0:w6.cell? ⟨wr.heap.size,0,none⟩=some (.int .i64 e.key):=HK6.s.cell 0;have r1:w6.cell? ⟨wr.heap.size,1,none⟩=some (.int .i64 e.value):=HK6.s.cell 1;have r2:w6.cell? ⟨wr.heap.size,2,none⟩=some (.int .i64 e.time):=HK6.s.cell 2;have r3:w6.cell? ⟨wr.heap.size,3,none⟩=some (.int .i64 e.who):=HK6.s.cell 3;have r4:w6.cell? ⟨wr.heap.size,4,none⟩=some (.bool e.gone):=HK6.s.cell 4;obtain⟨w7,hw7⟩:=kB (w6.alloc (.cells (bD e).toArray 125));have hb7:=uH hw7;have k7:Blk w7 w6.heap.size 125 (bD e).toArray:=by rw[hw7];exact Blk.new w6 125 _
     have ho7:=bI HO6.s hb7;have hs6:w.heap.size<=w6.heap.size:=HB6.s.size;obtain⟨HIN,HB7,HO7⟩:=uJ (zWc w.heap.size AL q cL w6.heap.size p L e w7 ho7 HQ.s (by omega) (by have:=HPL.s;have:=HQ.s;omega) k7 (λh=>by have:=(HO6.s.lt _ h).2;omega) (by have:=hb7.size;omega)) (HB6.s.trans (hb7.mono hs6)) ho7;have HW7:uS (w7=w6.alloc (.cells #[.int .i64 e.key,.int .i64 e.value,.int .i64 e.time,.int .i64 e.who,.bool e.gone] 125)):=hw7;rw[<-HI.s]at HIN;clear hw7 hb7 k7 ho7;go_wp2_with fail;rw[<-HW7.s];refine HIN.s.mono ?_;rintro _ w8 ⟨A8,c8,rfl,hown8,hO8,_⟩;obtain⟨HO8,HB8⟩:=uI hown8 (HB7.s.trans (hO8.to_below (λx hx _ h=>by have:=(HO7.s.lt x h).1;omega) HB7.s.size));clear hown8 hO8;go_wp2_with fail;go_roundw
     case rel=>exact⟨j+1,gI L e,by omega,by go_num,HSU.s.symm,HO8,HB8.s⟩
     case measure=>simp[intOf];omega
    |true=>
     obtain⟨x,hx,hxk,hie⟩:=HHAD.s hhad;clear hhad;have hpq:p<q:=by have:=(qK.1 hx).1;have:=HQ.s;omega
     obtain⟨g,cap,hv,hbg,hgl⟩:=HO6.s.form (by omega);injection hv with h1 _ h2;subst h1 h2;have hcx:∀r v,(bD x)[r]? =some v->w6.cell? ⟨g,p*5+r,none⟩=some v:=λr v hr=>by refine zAr HO6.s _ ?_;have hr5:r<5:=(qK.1 hr).1;rw[zBl bD 5 cN L p r hr5,hx];exact hr
     have x0:=λn:Ext w6=>n.cell (hcx 0 _ rfl)
     have x1:=λn:Ext w6=>n.cell (hcx 1 _ rfl)
     have x2:=λn:Ext w6=>n.cell (hcx 2 _ rfl)
     have x3:=λn:Ext w6=>n.cell (hcx 3 _ rfl)
     have x4:=λn:Ext w6=>n.cell (hcx 4 _ rfl)
     simp only[Nat.add_zero]at x0;have r0:=λn:Ext w6=>n.cell (show w6.cell? ⟨wr.heap.size,0,none⟩=some (.int .i64 e.key)from HK6.s.cell 0)
     have r1:=λn:Ext w6=>n.cell (show w6.cell? ⟨wr.heap.size,1,none⟩=some (.int .i64 e.value)from HK6.s.cell 1)
     have r2:=λn:Ext w6=>n.cell (show w6.cell? ⟨wr.heap.size,2,none⟩=some (.int .i64 e.time)from HK6.s.cell 2)
     have r3:=λn:Ext w6=>n.cell (show w6.cell? ⟨wr.heap.size,3,none⟩=some (.int .i64 e.who)from HK6.s.cell 3)
     have r4:=λn:Ext w6=>n.cell (show w6.cell? ⟨wr.heap.size,4,none⟩=some (.bool e.gone)from HK6.s.cell 4)
     have hpq':(p:Int)<(q:Int):=by omega
     obtain⟨HX,HIE,HNW⟩:=uJ hx hie (λW=>zZi e x W);clear hcx hx hie hxk;go_wp2_with fail;refine dR (by kernel_rfl) (by kernel_rfl) ?_
     repeat(go_big_quiet_step ((go_at_call 138;exact fT (HNW.s _))))
     refine qF ?_;rintro _ ⟨nq,rfl⟩;have hnq:=nq.h;obtain⟨HKn,HOn,HBn⟩:=uJ (HK6.s.below hnq HK6.s.lt) (bI HO6.s hnq) (HB6.s.trans (hnq.mono HB6.s.size));obtain⟨W0,hW0⟩:=kB nq.W;rw[<-hW0]at HKn HOn HBn;rw[<-hW0];clear hW0 hnq x0 x1 x2 x3 x4 r0 r1 r2 r3 r4;cases hnew:zDe e x with
     |false=>
      have HIF:=uT (show gI L e=L by rw[HIE.s,hnew];rfl);clear hnew;go_wp2_with fail;go_roundw
      case rel=>exact⟨j+1,L,by omega,by go_num,uT (show L=(b.take (j+1)).foldl gI a by rw[HSU.s,HIF.s]),by rw[HQ.s];exact HOn,HBn.s⟩
      case measure=>simp[intOf];omega
     |true=>
      have HIF:=uT (show gI L e=L.set p e by rw[HIE.s,hnew];rfl);clear hnew;have r0:W0.cell? ⟨wr.heap.size,0,none⟩=some (.int .i64 e.key):=HKn.s.cell 0;have r1:W0.cell? ⟨wr.heap.size,1,none⟩=some (.int .i64 e.value):=HKn.s.cell 1;have r2:W0.cell? ⟨wr.heap.size,2,none⟩=some (.int .i64 e.time):=HKn.s.cell 2;have r3:W0.cell? ⟨wr.heap.size,3,none⟩=some (.int .i64 e.who):=HKn.s.cell 3;have r4:W0.cell? ⟨wr.heap.size,4,none⟩=some (.bool e.gone):=HKn.s.cell 4;obtain⟨cur,hkc,_,_,_,_,_⟩:=yCm HOn.s;have hcx:∀r v,(bD x)[r]? =some v->W0.cell? ⟨g,p*5+r,none⟩=some v:=λr v hr=>by refine zAr HOn.s _ ?_;have hr5:r<5:=(qK.1 hr).1;rw[zBl bD 5 cN L p r hr5,HX.s];exact hr
      have y0:W0.cell? ⟨g,p*5,none⟩=some (.int .i64 x.key):=hcx 0 _ rfl;have y1:=hcx 1 _ rfl;have y2:=hcx 2 _ rfl;have y3:=hcx 3 _ rfl;have y4:=hcx 4 _ rfl;have f0:=hkc.frozen (p*5);have f1:=hkc.frozen (p*5+1);have f2:=hkc.frozen (p*5+2);have f3:=hkc.frozen (p*5+3);have f4:=hkc.frozen (p*5+4);have HPU:=uT (own_put5 HOn.s HQ.s HX.s e);have HPB:uS (uR w (zXm W0 g p e)):=((((HBn.s.setCell (p:=⟨g,p*5,none⟩) hbg _).setCell (p:=⟨g,p*5+1,none⟩) hbg _).setCell (p:=⟨g,p*5+2,none⟩) hbg _).setCell (p:=⟨g,p*5+3,none⟩) hbg _).setCell (p:=⟨g,p*5+4,none⟩) hbg _;clear hcx hkc;go_wp2_with fail;go_roundw
      case rel=>exact⟨j+1,L.set p e,by omega,by go_num,uT (show L.set p e=(b.take (j+1)).foldl gI a by rw[HSU.s,HIF.s]),by rw[List.length_set,HQ.s];exact HPU,HPB.s⟩
      case measure=>simp[intOf];omega
   ·obtain rfl:j=n':=by omega
    have hLf:L=b.foldl gI a:=by rw[HLE.s,qS (by rw[HL'.s];exact qA _)]
    rw[<-hLf]at HF;have HB:=uT hb;clear hb hLf HLE sL kL lL;by_cases h8:8<q
    ·have HF2:=uT (show dY a b=([],8)by rw[HF.s,if_pos (by rw[HQ.s];exact h8)]);have h8':(8:Int)<(q:Int):=by omega
     clear hq;go_wp2_with fail;go_ret2;rw[HF2.s];exact⟨_,rfl,qH _ _ _ _,HB.s⟩
    ·have HF2:=uT (show dY a b=(L,0)by rw[HF.s,if_neg (by rw[HQ.s];exact h8)]);have h8':(q:Int)<=8:=by omega
     clear hq;go_wp2_with fail;go_ret2;rw[HF2.s];exact⟨_,rfl,by dsimp only;rw[HQ.s];exact HOL.s,HB.s⟩
structure StoreAt(w:World)(base g:Nat)(S:List EnR):Prop where
 blk:Blk w g 103 (S.map EnR.val).toArray
 rows:∀r∈S,w.ownsRow base 125 5 r.val r.es.length (r.es.flatMap bD)
 small:∀r∈S,r.es.length<=8
 low:base<=g
section
variable {w w':World}{base g:Nat}{S:List EnR}
theorem StoreAt.only{D:Nat->Prop}(h:StoreAt w base g S)(ho:Only D w w')(h1:¬ D g)(h2:∀r∈S,∀k,r.val.ownBlock=some k->¬ D k):StoreAt w' base g S:=
 ⟨h.blk.only ho h1,λr hr=>bL (h.rows r hr) ho (h2 r hr),h.small,h.low⟩
theorem StoreAt.calm(h:StoreAt w base g S)(hb:uR w w'):StoreAt w' base g S:=
 h.only (D:=λ_=>False) (Only.of_below hb λx h1 h2=>by omega) (λe=>e) (λ_ _ _ _ e=>e)
theorem StoreAt.cell(h:StoreAt w base g S){i:Nat}{r:EnR}(hi:S[i]? =some r):w.cell? ⟨g,i,none⟩=some r.val:=by rw[h.blk.cell i];simp[hi]
theorem StoreAt.set_(h:StoreAt w base g S){i:Nat}(hi:i<S.length){r:EnR}(hr:w.ownsRow base 125 5 r.val r.es.length (r.es.flatMap bD))(hs:r.es.length<=8):StoreAt (w.setCell ⟨g,i,none⟩ r.val) base g (S.set i r):=by
 have hO:Only (λk=>k=g) w (w.setCell ⟨g,i,none⟩ r.val):=bJ (Only.refl _ _) _ _;have key:∀x:EnR,w.ownsRow base 125 5 x.val x.es.length (x.es.flatMap bD)->(w.setCell ⟨g,i,none⟩ r.val).ownsRow base 125 5 x.val x.es.length (x.es.flatMap bD):=λx hx=>bL hx hO λk hk e=>bC hx h.blk (by decide) (by rw[hk,e])
 refine⟨?_,λx hx=> ?_,λx hx=> ?_,h.low⟩
 ·have h1:=h.blk.set_ i r.val;have e:(S.map EnR.val).toArray.setIfInBounds i r.val=((S.set i r).map EnR.val).toArray:=by rw[<-uD];simp[List.map_set]
  rw[e]at h1;exact h1
 ·rcases jO hx with h1|h1
  ·exact key x (h.rows x h1)
  ·rw[h1];exact key r hr
 ·rcases jO hx with h1|h1
  ·exact h.small x h1
  ·rw[h1];exact hs
theorem yBx(a b:List Ent):(dY a b).1.length<=8:=by
 unfold dY
 split
 ·split
  ·simp
  ·dsimp only;omega
 ·simp
end
def zNq(w:World)(base g:Nat)(S:List EnR)(i:Nat)(es:List Ent)(e:Ending)(w':World):Prop:=
 e= .returned (.tuple #[])/\∃r:EnR,r.es=es/\StoreAt w' base g (S.set i r)/\Only (λk=>k=g) w w'/\∀k,r.val.ownBlock=some k->w.heap.size<=k
theorem zLc(base g m:Nat)(S:List EnR)(w:World)(i:Nat)(x:EnR)(A:Option Addr)(n c:Nat)(b:List Ent)(B:Nat)(h:StoreAt w base g S)(hm:S.length=m)(hx:S[i]? =some x)(hl:b.length=n)(hn:n*40<=140737488351232)(hr:Reads w B 5 A n (b.flatMap bD))(hB:B<=w.heap.size)(hb0:base<=w.heap.size)(hm8:m<=1000):Calls prog 90 #[.slice (some ⟨g,0,none⟩) m m,.int .i64 i,.slice A n c] w (zNq w base g S i (dY x.es b).1):=by
 have hi:i<m:=by rw[<-hm];exact(qK.1 hx).1
 have hxr:=h.rows x (qB hx);have hxs:=h.small x (qB hx);obtain⟨xe,xA,xc⟩:=x;unfold EnR.val at hxr;dsimp only at hxr hxs;have c0:w.cell? ⟨g,i,none⟩=some (.slice xA xe.length xc):=h.cell hx;have HME:=uT (zZf xA A xe.length xc n c xe b w.heap.size w rfl (by omega) (Reads.of_own hxr) hl hn (hr.more hB) (qA _));obtain⟨q,hq⟩:=kB xe.length;rw[<-hq]at c0 HME;have hi':(i:Int)<(m:Int):=by omega
 obtain⟨HX,HI⟩:=uI h (show i<S.length by omega);have hlen:=yBx xe b;dsimp only;generalize dY xe b=r at HME hlen;obtain⟨re,rc⟩:=r;dsimp only at hlen;have HLE:=uT hlen;clear h hx hxr hxs hr hl hlen hq hm;go_enter func90,ntmps90;go_wp2_with fail;refine HME.s.mono ?_;rintro _ w1 ⟨v1,rfl,ho1,hb1⟩;dsimp only at ho1;obtain⟨A1,c1,rfl,_⟩:=bE ho1;obtain⟨HX1,HO1,HB1,HLW⟩:=uK (HX.s.calm hb1) (dU ho1 hb0) hb1 (λk hk=>(ho1.lt k hk).1);have y0:w1.cell? ⟨g,i,none⟩=some (.slice xA q xc):=by rw[hb1.cell (p:=⟨g,i,none⟩) HX.s.blk.lt];exact c0
 have y0f:=HX1.s.blk.frozen i;clear ho1 hb1 c0;go_wp2_with fail
 go_end0
 have h1:=HX1.s.set_ HI.s (r:=⟨re,A1,c1⟩) HO1.s HLE.s;exact⟨rfl,⟨re,A1,c1⟩,rfl,h1,bJ (Only.of_below HB1.s λx h1 h2=>by omega) _ _,HLW.s⟩
def zDp(l:List Ent)(t:Int):Int:=l.foldl (λt e=>max t e.time) t
theorem zWt(base g m:Nat)(S:List EnR)(w:World)(i:Nat)(x:EnR)(h:StoreAt w base g S)(hm:S.length=m)(hx:S[i]? =some x)(ht:∀e∈x.es,0<=e.time/\e.time<=2000000)(hm8:m<=1000):Calls prog 139 #[.slice (some ⟨g,0,none⟩) m m,.int .i64 i] w λe w'=>e= .returned (.int .i64 (zDp x.es 0+1))/\uR w w':=by
 have hi:i<m:=by rw[<-hm];exact(qK.1 hx).1
 have hxr:=h.rows x (qB hx);have hxs:=h.small x (qB hx);obtain⟨xe,xA,xc⟩:=x;unfold EnR.val at hxr;dsimp only at hxr hxs ht;dsimp only;have c0:w.cell? ⟨g,i,none⟩=some (.slice xA xe.length xc):=h.cell hx;obtain⟨q,hq⟩:=kB xe.length;rw[<-hq]at c0;obtain⟨HRD,HQ,HT⟩:=uJ (show Reads w w.heap.size 5 xA q (xe.flatMap bD)by rw[hq];exact Reads.of_own hxr) hq.symm ht;have hi':(i:Int)<(m:Int):=by omega
 clear h hx hxr ht hm;go_enter func139,ntmps139;go_wp2_with fail
 go_loopw [5,13] (λt j wr=>∃(k:Nat) (z:Int),k<=q/\j= .int .i64 k/\t= .int .i64 z/\(0<=z/\z<=2000000)/\uS (zDp (xe.drop k) z=zDp xe 0)/\uR w wr) (λ_ j _=>q-(intOf j).toNat)
 case atStart=>exact⟨0,0,qL _,rfl,rfl,by omega,rfl,qC _ _⟩
 case round=>
  obtain⟨k,z,hk,rfl,rfl,hz,HTL,hb⟩:=hrel;by_cases hlt:k<q
  ·obtain⟨bx,o,e,rfl,_,he,hc⟩:=fB cN (by omega) (HRD.s.below hb) hlt HQ.s;have e0:wr.cell? ⟨bx,o+k*5,none⟩=some (.int .i64 e.key):=hc 0 _ rfl;have e1:wr.cell? ⟨bx,o+k*5+1,none⟩=some (.int .i64 e.value):=hc 1 _ rfl;have e2:wr.cell? ⟨bx,o+k*5+2,none⟩=some (.int .i64 e.time):=hc 2 _ rfl;have e3:wr.cell? ⟨bx,o+k*5+3,none⟩=some (.int .i64 e.who):=hc 3 _ rfl;have e4:wr.cell? ⟨bx,o+k*5+4,none⟩=some (.bool e.gone):=hc 4 _ rfl;have het:=HT.s e (qB he);have HT2:=uT (show zDp (xe.drop (k+1)) (max z e.time)=zDp xe 0 by have h:=HTL.s;rw[cZ xe k e he]at h;exact h);have hkq:(k:Int)<(q:Int):=by omega
   have HB:=uT (hb.trans (((qC _ wr).alloc (qA _) (.cells #[.int .i64 e.key,.int .i64 e.value,.int .i64 e.time,.int .i64 e.who,.bool e.gone] 125)).mono hb.size));clear hc he hb HTL;go_wp2_with fail;go_roundw
   case rel=>exact⟨k+1,max z e.time,by omega,by go_num,rfl,by omega,HT2,HB.s⟩
   case measure=>simp[intOf];omega
  ·obtain rfl:k=q:=by omega
   obtain⟨HF,HB⟩:=uI (show zDp xe 0=z by have h:=HTL.s;rw[qW (by rw[HQ.s];exact qA _)]at h;exact h.symm) hb;clear hb HTL;go_wp2_with fail;go_ret;rw[HF.s];exact⟨rfl,HB.s⟩
def zFm(l:List Ent)(who key value:Int)(gone:Bool):List Ent:=(dY l [⟨key,value,zDp l 0+1,who,gone⟩]).1
theorem zYq(base g m:Nat)(S:List EnR)(w:World)(i:Nat)(x:EnR)(who key value:Int)(gone:Bool)(h:StoreAt w base g S)(hm:S.length=m)(hx:S[i]? =some x)(ht:∀e∈x.es,0<=e.time/\e.time<=2000000)(hb0:base<=w.heap.size)(hm8:m<=1000):Calls prog 116 #[.slice (some ⟨g,0,none⟩) m m,.int .i64 i,.int .i64 who,.int .i64 key,.int .i64 value,.bool gone] w (zNq w base g S i (zFm x.es who key value gone)):=by
 obtain⟨HNX,HX,HM,HXX,HF⟩:=uL (zWt base g m S w i x h hm hx ht hm8) h hm hx (show zFm x.es who key value gone=(dY x.es [⟨key,value,zDp x.es 0+1,who,gone⟩]).1 from rfl);obtain⟨t,ht2⟩:=kB (zDp x.es 0+1);rw[<-ht2]at HNX HF;clear h hm hx ht ht2;go_enter func116,ntmps116;go_wp2_with fail;refine HNX.s.mono ?_;rintro _ w1 ⟨rfl,hb1⟩;obtain⟨w2,hw2⟩:=kB ((w1.alloc (.cells #[.int .i64 key,.int .i64 value,.int .i64 t,.int .i64 who,.bool gone] 125)).alloc (.cells #[.int .i64 key,.int .i64 value,.int .i64 t,.int .i64 who,.bool gone] 125));have hb2:uR w1 w2:=by rw[hw2];exact((qC _ _).alloc (qA _) _).alloc (by simp) _
 have k2:Blk w2 (w1.heap.size+1) 125 (bD ⟨key,value,t,who,gone⟩).toArray:=by have h:=Blk.new (w1.alloc (.cells #[.int .i64 key,.int .i64 value,.int .i64 t,.int .i64 who,.bool gone] 125)) 125 (bD ⟨key,value,t,who,gone⟩).toArray;rw[hw2];simpa[bD]using h
 have HB2:=uT (hb1.trans (hb2.mono hb1.size));have HX2:=HX.s.calm HB2.s;obtain⟨HLE,HW2⟩:=uI (zLc base g m S w2 i x (some ⟨w1.heap.size+1,0,none⟩) 1 1 [⟨key,value,t,who,gone⟩] w2.heap.size HX2 HM.s HXX.s rfl (by omega) (by simpa using zVe k2 5 rfl) (qA _) (qN hb0 HB2.s.size) hm8) hw2;clear hb1 hw2 hb2 k2 HX2;go_wp2_with fail;rw[<-HW2.s];refine HLE.s.mono ?_;rintro _ w3 ⟨rfl,r,hre,hst,hon,hlw⟩;go_wp2_with fail
 go_end0
 rw[HF.s];have hs:=HB2.s.size;exact⟨rfl,r,hre,hst,(Only.of_below HB2.s λx h1 h2=>by omega).trans hon (λ_ _ h=>h),λk hk=>by have:=hlw k hk;omega⟩
theorem arr5(cs:Array Value)(hs:cs.size=5)(b0 b1 b2 b3 b4:Value):((((cs.setIfInBounds 0 b0).setIfInBounds 1 b1).setIfInBounds 2 b2).setIfInBounds 3 b3).setIfInBounds 4 b4=#[b0,b1,b2,b3,b4]:=by
 obtain⟨l⟩:=cs
 match l,hs with
 |[x0,x1,x2,x3,x4],_=>rfl
def ent5(w:World)(b:Nat)(b0 b1 b2 b3 b4:Value):World:=((((w.setCell ⟨b,0,none⟩ b0).setCell ⟨b,1,none⟩ b1).setCell ⟨b,2,none⟩ b2).setCell ⟨b,3,none⟩ b3).setCell ⟨b,4,none⟩ b4
theorem zTh{w:World}{b:Nat}{cs:Array Value}(h:Blk w b 125 cs)(hs:cs.size=5)(b0 b1 b2 b3 b4:Value):Blk (ent5 w b b0 b1 b2 b3 b4) b 125 #[b0,b1,b2,b3,b4]:=by rw[<-arr5 cs hs b0 b1 b2 b3 b4];exact((((h.set_ 0 b0).set_ 1 b1).set_ 2 b2).set_ 3 b3).set_ 4 b4
theorem zPz(w:World)(b:Nat)(b0 b1 b2 b3 b4:Value):Only (λk=>k=b) w (ent5 w b b0 b1 b2 b3 b4):=
 bJ (bJ (bJ (bJ (bJ (Only.refl _ _) _ _) _ _) _ _) _ _) _ _
def Ent.zero:Ent:=⟨0,0,0,0,false⟩
def zAn:List Ent->Int->Ent×Bool
 |[],_=>(Ent.zero,false)
 |e::l,k=>if e.key=k then(e,!e.gone)else zAn l k
theorem zWj(base g m:Nat)(S:List EnR)(w:World)(i:Nat)(x:EnR)(key:Int)(h:StoreAt w base g S)(hm:S.length=m)(hx:S[i]? =some x)(hm8:m<=1000):Calls prog 117 #[.slice (some ⟨g,0,none⟩) m m,.int .i64 i,.int .i64 key] w λe w'=>e= .returned (.tuple #[zCe (zAn x.es key).1,.bool (zAn x.es key).2])/\uR w w':=by
 have hi:i<m:=by rw[<-hm];exact(qK.1 hx).1
 have hxr:=h.rows x (qB hx);have hxs:=h.small x (qB hx);have hglt:=h.blk.lt;obtain⟨xe,xA,xc⟩:=x;unfold EnR.val at hxr;dsimp only at hxr hxs;dsimp only;have c0:w.cell? ⟨g,i,none⟩=some (.slice xA xe.length xc):=h.cell hx;obtain⟨q,hq⟩:=kB xe.length;rw[<-hq]at c0;obtain⟨p0,hp0⟩:=kB w.heap.size;obtain⟨wx,hwx⟩:=kB (w.alloc (.cells #[.int .i64 0,.int .i64 0,.int .i64 0,.int .i64 0,.bool false] 125));have hbx:=uH hwx;have kx:Blk wx p0 125 #[.int .i64 0,.int .i64 0,.int .i64 0,.int .i64 0,.bool false]:=by rw[hwx,hp0];exact Blk.new w 125 _
 have HRD:=uT (show Reads wx w.heap.size 5 xA q (xe.flatMap bD)by rw[hq];exact(Reads.of_own hxr).below hbx);have hq8:q<=8:=by rw[hq];exact hxs
 obtain⟨HQ,HKX,HBX,HP0⟩:=uK hq.symm kx hbx hp0;have hi':(i:Int)<(m:Int):=by omega
 have HWX:=uT hwx;have c0x:wx.cell? ⟨g,i,none⟩=some (.slice xA q xc):=by rw[hbx.cell (p:=⟨g,i,none⟩) hglt];exact c0
 clear h hx hxr hm hq hxs hbx kx hp0 hwx c0;go_enter func117,ntmps117;go_upto_region 1 with fail;rw[<-HWX.s,<-HP0.s];go_wp2_with fail
 go_loopw [15] (λj wr=>∃(k:Nat),k<=q/\j= .int .i64 k/\uS (zAn (xe.drop k) key=zAn xe key)/\uR wx wr) (λj _=>q-(intOf j).toNat)
 case atStart=>exact⟨0,qL _,rfl,rfl,qC _ _⟩
 case round=>
  obtain⟨k,hk,rfl,HFI,hb⟩:=hrel;have hbxs:=HBX.s.size;have HWB:=uT (show uR w wr from HBX.s.trans (hb.mono hbxs));have kr:=HKX.s.below hb HKX.s.lt;have hp0w:p0<wr.heap.size:=kr.lt;have z0:wr.cell? ⟨p0,0,none⟩=some (.int .i64 0):=kr.cell 0;have z1:wr.cell? ⟨p0,1,none⟩=some (.int .i64 0):=kr.cell 1;have z2:wr.cell? ⟨p0,2,none⟩=some (.int .i64 0):=kr.cell 2;have z3:wr.cell? ⟨p0,3,none⟩=some (.int .i64 0):=kr.cell 3;have z4:wr.cell? ⟨p0,4,none⟩=some (.bool false):=kr.cell 4;have g0:=kr.frozen 0;have g1:=kr.frozen 1;have g2:=kr.frozen 2;have g3:=kr.frozen 3;have g4:=kr.frozen 4;have HKR:=uT kr;clear kr;by_cases hlt:k<q
  ·obtain⟨bx,o,e,rfl,_,he,hc⟩:=fB cN (by omega) (HRD.s.below (hb.mono hbxs)) hlt HQ.s;have e0:wr.cell? ⟨bx,o+k*5,none⟩=some (.int .i64 e.key):=hc 0 _ rfl;have e1:wr.cell? ⟨bx,o+k*5+1,none⟩=some (.int .i64 e.value):=hc 1 _ rfl;have e2:wr.cell? ⟨bx,o+k*5+2,none⟩=some (.int .i64 e.time):=hc 2 _ rfl;have e3:wr.cell? ⟨bx,o+k*5+3,none⟩=some (.int .i64 e.who):=hc 3 _ rfl;have e4:wr.cell? ⟨bx,o+k*5+4,none⟩=some (.bool e.gone):=hc 4 _ rfl;have HF2:=uT (show(if e.key=key then(e,!e.gone)else zAn (xe.drop (k+1)) key)=zAn xe key by have h:=HFI.s;rw[cZ xe k e he]at h;exact h);have hkq:(k:Int)<(q:Int):=by omega
   obtain⟨w3,hw3⟩:=kB (wr.alloc (.cells #[.int .i64 e.key,.int .i64 e.value,.int .i64 e.time,.int .i64 e.who,.bool e.gone] 125));have hb3:=uH hw3;have k3:Blk w3 wr.heap.size 125 #[.int .i64 e.key,.int .i64 e.value,.int .i64 e.time,.int .i64 e.who,.bool e.gone]:=by rw[hw3];exact Blk.new wr 125 _
   obtain⟨HW3,HB3⟩:=uI hw3 hb3;by_cases hke:e.key=key
   ·have HF3:=uT (show zAn xe key=(e,!e.gone)by rw[<-HF2.s,if_pos hke]);have hkb:(e.key==key)=true:=by simpa using hke
    clear hc he hb HFI hw3 hke;go_upto_region 5 with fail;rw[<-HW3.s];have r0:w3.cell? ⟨wr.heap.size,0,none⟩=some (.int .i64 e.key):=k3.cell 0;have r1:w3.cell? ⟨wr.heap.size,1,none⟩=some (.int .i64 e.value):=k3.cell 1;have r2:w3.cell? ⟨wr.heap.size,2,none⟩=some (.int .i64 e.time):=k3.cell 2;have r3:w3.cell? ⟨wr.heap.size,3,none⟩=some (.int .i64 e.who):=k3.cell 3;have r4:w3.cell? ⟨wr.heap.size,4,none⟩=some (.bool e.gone):=k3.cell 4;have kp:=HKR.s.below hb3 hp0w;have y0:w3.cell? ⟨p0,0,none⟩=some (.int .i64 0):=kp.cell 0;have y1:w3.cell? ⟨p0,1,none⟩=some (.int .i64 0):=kp.cell 1;have y2:w3.cell? ⟨p0,2,none⟩=some (.int .i64 0):=kp.cell 2;have y3:w3.cell? ⟨p0,3,none⟩=some (.int .i64 0):=kp.cell 3;have y4:w3.cell? ⟨p0,4,none⟩=some (.bool false):=kp.cell 4;have j0:=kp.frozen 0;have j1:=kp.frozen 1;have j2:=kp.frozen 2;have j3:=kp.frozen 3;have j4:=kp.frozen 4;have hne:¬ p0=wr.heap.size:=by omega
    have hne2:¬ wr.heap.size=p0:=by omega
    have HKP:=uT kp;clear hb3 k3 kp z0 z1 z2 z3 z4 g0 g1 g2 g3 g4 e0 e1 e2 e3 e4
    go_region
    all_goals
     go_wp2_with fail;obtain⟨w5,hw5⟩:=kB ((ent5 w3 p0 (.int .i64 e.key) (.int .i64 e.value) (.int .i64 e.time) (.int .i64 e.who) (.bool e.gone)).drew);have k5:Blk w5 p0 125 #[.int .i64 e.key,.int .i64 e.value,.int .i64 e.time,.int .i64 e.who,.bool e.gone]:=by rw[hw5];exact(zTh HKP.s rfl _ _ _ _ _).drew
     have hF5:Only (λk=>k=p0) w3 w5:=by rw[hw5];exact(zPz _ _ _ _ _ _ _).drew
     have hw6:(((((w3.setCell ⟨p0,0,none⟩ (.int .i64 e.key)).setCell ⟨p0,1,none⟩ (.int .i64 e.value)).setCell ⟨p0,2,none⟩ (.int .i64 e.time)).setCell ⟨p0,3,none⟩ (.int .i64 e.who)).setCell ⟨p0,4,none⟩ (.bool e.gone)).drew=w5:=hw5.symm;rw[hw6];clear hw6;have t0:=k5.cell 0;have t1:=k5.cell 1;have t2:=k5.cell 2;have t3:=k5.cell 3;have t4:=k5.cell 4;have HEND:=uT (show uR w w5 from(HWB.s.trans (HB3.s.mono HWB.s.size)).trans (hF5.to_below (λx hx _ e=>by have:=HP0.s;omega) (HWB.s.trans (HB3.s.mono HWB.s.size)).size));clear hw5 k5 hF5;refine bodyPost_ret (v:= .tuple #[.agg #[.int .i64 e.key,.int .i64 e.value,.int .i64 e.time,.int .i64 e.who,.bool e.gone],.bool (!e.gone)]) (by simp[results,Tryz.results117,go_sem,t0,t1,t2,t3,t4]) rfl (by rw[HF3.s];exact⟨rfl,HEND.s⟩)
   ·have HF3:=uT (show zAn (xe.drop (k+1)) key=zAn xe key by rw[<-HF2.s,if_neg hke]);have hkb:(e.key==key)=false:=by simpa using hke
    have HBX3:=uT (hb.trans (hb3.mono hb.size));clear hc he hb HFI hw3 hke;go_wp2_with fail;rw[<-HW3.s];go_roundw
    case rel=>exact⟨k+1,by omega,by go_num,HF3,HBX3.s⟩
    case measure=>simp[intOf];omega
  ·obtain rfl:k=q:=by omega
   have HF3:=uT (show zAn xe key=(Ent.zero,false)by have h:=HFI.s;rw[qW (by rw[HQ.s];exact qA _)]at h;exact h.symm);clear hb HFI;go_wp2_with fail;obtain⟨w5,hw5⟩:=kB (ent5 wr p0 (.int .i64 0) (.int .i64 0) (.int .i64 0) (.int .i64 0) (.bool false));have k5:Blk w5 p0 125 #[.int .i64 0,.int .i64 0,.int .i64 0,.int .i64 0,.bool false]:=by rw[hw5];exact zTh HKR.s rfl _ _ _ _ _
   have hF5:Only (λk=>k=p0) wr w5:=by rw[hw5];exact zPz _ _ _ _ _ _ _
   have hw6:((((wr.setCell ⟨p0,0,none⟩ (.int .i64 0)).setCell ⟨p0,1,none⟩ (.int .i64 0)).setCell ⟨p0,2,none⟩ (.int .i64 0)).setCell ⟨p0,3,none⟩ (.int .i64 0)).setCell ⟨p0,4,none⟩ (.bool false)=w5:=hw5.symm;rw[hw6];clear hw6;have t0:=k5.cell 0;have t1:=k5.cell 1;have t2:=k5.cell 2;have t3:=k5.cell 3;have t4:=k5.cell 4;have HEND:=uT (show uR w w5 from HWB.s.trans (hF5.to_below (λx hx _ e=>by have:=HP0.s;omega) HWB.s.size));clear hw5 k5 hF5;refine bodyPost_ret (v:= .tuple #[.agg #[.int .i64 0,.int .i64 0,.int .i64 0,.int .i64 0,.bool false],.bool false]) (by simp[results,Tryz.results117,go_sem,t0,t1,t2,t3,t4]) rfl (by rw[HF3.s];exact⟨rfl,HEND.s⟩)
theorem yCb(v j:Nat)(hv:v<=255):(bits .and .i64 ((v:Int)/2^j) 1==1)=v.testBit j:=by
 have e:((v:Int)/2^j)=((v/2^j:Nat):Int):=by simp
 have hd:v/2^j<=255:=qN (Nat.div_le_self _ _) hv;rw[e,show(1:Int)=((1:Nat):Int)from rfl,zBz _ _ (by omega) (by omega),Nat.and_one_is_mod,Nat.testBit_eq_decide_div_mod_eq];rw[Bool.eq_iff_iff];simp;omega
theorem yGc(v j:Nat)(w:World)(hv:v<=255)(hj:j<=62):Calls prog 54 #[.int .i64 v,.int .i64 j] w λe w'=>e= .returned (.bool (v.testBit j))/\w=w':=by have hbit:=yCb v j hv;clear hv;go_enter func54,ntmps54;go_wp2_with fail;go_ret;exact⟨rfl,rfl⟩
theorem zYe{B:Nat}{a w:World}(h:Below B a w)(n:Nat):Below B a (w.drewN n):=⟨h.os,h.tape,h.output,h.size,h.block⟩
def rowP(P:List (List (List Ent)))(who i:Nat):List Ent:=((P[who]?.getD [])[i]?).getD []
def setP(P:List (List (List Ent)))(dst i:Nat)(l:List Ent):List (List (List Ent)):=P.set dst ((P[dst]?.getD []).set i l)
abbrev Slot:=Ent×Bool
def zCi(q:List Slot):List Value:=q.flatMap λs=>bD s.1
def zCz(q:List Slot):List Value:=q.map λs=>Value.bool s.2
theorem yIe(q:List Slot):(zCi q).length=q.length*5:=zEp (cells:=λs:Slot=>bD s.1) (λ_=>rfl) q
theorem zUl(q:List Slot)(p:Nat)(s:Slot)(h:q[p]? =some s)(j:Nat)(u:Value)(hu:(bD s.1)[j]? =some u):(zCi q)[p*5+j]? =some u:=by have hj:j<5:=(qK.1 hu).1;unfold zCi;rw[zBl (λs:Slot=>bD s.1) 5 (λ_=>rfl) q p j hj,h];exact hu
theorem zMq(q:List Slot)(p:Nat)(s:Slot)(h:q[p]? =some s):(zCz q)[p]? =some (.bool s.2):=by simp[zCz,h]
structure ShvOne(w:World)(base x y n:Nat)(q:List Slot):Prop where
 ents:Blk w x 126 (zCi q).toArray
 bits:Blk w y 118 (zCz q).toArray
 len:q.length=n*8
 lowx:base<=x
 lowy:base<=y
structure ShvAt(w:World)(base sb hb ib n c m hc ic:Nat)(A:Option Addr)(X Y:List Nat)(Q:List (List Slot)):Prop where
 n8:n<=1000
 m8:m<=60
 xm:X.length=m
 ym:Y.length=m
 qm:Q.length=m
 cap:m<=hc/\m<=ic
 shelves:Blk w sb 123 #[.slice A n c,.slice (some ⟨hb,0,none⟩) m hc,.slice (some ⟨ib,0,none⟩) m ic]
 rowx:∃cs,Blk w hb 127 cs/\∀j g:Nat,X[j]? =some g->cs[j]? =some (.slice (some ⟨g,0,none⟩) n n)
 rowy:∃cs,Blk w ib 119 cs/\∀j g:Nat,Y[j]? =some g->cs[j]? =some (.slice (some ⟨g,0,none⟩) n n)
 st:∀(j x y:Nat) (q:List Slot),X[j]? =some x->Y[j]? =some y->Q[j]? =some q->ShvOne w base x y n q
 ndx:X.Nodup
 ndy:Y.Nodup
 low:base<=sb/\base<=hb/\base<=ib
section
variable {w w':World}{base x y n:Nat}{q:List Slot}
theorem ShvOne.only{D:Nat->Prop}(h:ShvOne w base x y n q)(ho:Only D w w')(h1:¬ D x)(h2:¬ D y):ShvOne w' base x y n q:=
 ⟨h.ents.only ho h1,h.bits.only ho h2,h.len,h.lowx,h.lowy⟩
theorem ShvOne.calm(h:ShvOne w base x y n q)(hb:uR w w'):ShvOne w' base x y n q:=
 ⟨h.ents.below hb h.ents.lt,h.bits.below hb h.bits.lt,h.len,h.lowx,h.lowy⟩
theorem ShvOne.cellE(h:ShvOne w base x y n q){l k:Nat}{s:Slot}(hs:q[l*8+k]? =some s)(j:Nat)(u:Value)(hu:(bD s.1)[j]? =some u):w.cell? ⟨x,l*40+k*5+j,none⟩=some u:=by rw[h.ents.cell,show l*40+k*5+j=(l*8+k)*5+j by omega];simpa using zUl q _ s hs j u hu
theorem ShvOne.cellB(h:ShvOne w base x y n q){l k:Nat}{s:Slot}(hs:q[l*8+k]? =some s):w.cell? ⟨y,l*8+k,none⟩=some (.bool s.2):=by rw[h.bits.cell];simpa using zMq q _ s hs
end
section
variable {w w':World}{base sb hb ib n c m hc ic:Nat}{A:Option Addr}{X Y:List Nat}{Q:List (List Slot)}
theorem ShvAt.calm(h:ShvAt w base sb hb ib n c m hc ic A X Y Q)(hw:uR w w'):ShvAt w' base sb hb ib n c m hc ic A X Y Q:=by obtain⟨cs,h1,h2⟩:=h.rowx;obtain⟨cs',h3,h4⟩:=h.rowy;exact⟨h.n8,h.m8,h.xm,h.ym,h.qm,h.cap,h.shelves.below hw h.shelves.lt,⟨cs,h1.below hw h1.lt,h2⟩,⟨cs',h3.below hw h3.lt,h4⟩,λj x y q hx hy hq=>(h.st j x y q hx hy hq).calm hw,h.ndx,h.ndy,h.low⟩
theorem ShvAt.put(h:ShvAt w base sb hb ib n c m hc ic A X Y Q){j x y:Nat}{q q':List Slot}(hx:X[j]? =some x)(hy:Y[j]? =some y)(hq:Q[j]? =some q)(hs':ShvOne w' base x y n q')(ho:Only (λk=>k=x\/k=y) w w'):ShvAt w' base sb hb ib n c m hc ic A X Y (Q.set j q'):=by
 obtain⟨cs,h1,h2⟩:=h.rowx;obtain⟨cs',h3,h4⟩:=h.rowy;have hst:=h.st j x y q hx hy hq;refine⟨h.n8,h.m8,h.xm,h.ym,by simp[h.qm],h.cap,h.shelves.only ho ?_,⟨cs,h1.only ho ?_,h2⟩,⟨cs',h3.only ho ?_,h4⟩,?_,h.ndx,h.ndy,h.low⟩
 ·rintro(e|e)
  ·exact h.shelves.ne_ hst.ents (by decide) e
  ·exact h.shelves.ne_ hst.bits (by decide) e
 ·rintro(e|e)
  ·exact h1.ne_ hst.ents (by decide) e
  ·exact h1.ne_ hst.bits (by decide) e
 ·rintro(e|e)
  ·exact h3.ne_ hst.ents (by decide) e
  ·exact h3.ne_ hst.bits (by decide) e
 intro i xi yi qi hxi hyi hqi;by_cases hij:i=j
 ·subst hij;rw[jM (by rw[h.qm,<-h.xm];exact(qK.1 hx).1)]at hqi;cases hqi;obtain rfl:xi=x:=by rw[hx]at hxi;cases hxi;rfl
  obtain rfl:yi=y:=by rw[hy]at hyi;cases hyi;rfl
  exact hs'
 ·rw[jX λe=>hij e.symm]at hqi;have hi:=h.st i xi yi qi hxi hyi hqi;refine hi.only ho ?_ ?_
  ·rintro(e|e)
   ·subst e;exact hij ((List.getElem?_inj (qK.1 hxi).1 h.ndx).1 (by rw[hxi,hx]))
   ·exact hi.ents.ne_ hst.bits (by decide) e
  ·rintro(e|e)
   ·exact hi.bits.ne_ hst.ents (by decide) e
   ·subst e;exact hij ((List.getElem?_inj (qK.1 hyi).1 h.ndy).1 (by rw[hyi,hy]))
theorem ShvAt.c1(h:ShvAt w base sb hb ib n c m hc ic A X Y Q):w.cell? ⟨sb,1,none⟩=some (.slice (some ⟨hb,0,none⟩) m hc):=by rw[h.shelves.cell 1];rfl
theorem ShvAt.c2(h:ShvAt w base sb hb ib n c m hc ic A X Y Q):w.cell? ⟨sb,2,none⟩=some (.slice (some ⟨ib,0,none⟩) m ic):=by rw[h.shelves.cell 2];rfl
theorem ShvAt.cs(h:ShvAt w base sb hb ib n c m hc ic A X Y Q){j:Nat}(hj:j<m):∃x y q,X[j]? =some x/\Y[j]? =some y/\Q[j]? =some q/\w.cell? ⟨hb,j,none⟩=some (.slice (some ⟨x,0,none⟩) n n)/\w.cell? ⟨ib,j,none⟩=some (.slice (some ⟨y,0,none⟩) n n)/\ShvOne w base x y n q:=by
 obtain⟨cs,h1,h2⟩:=h.rowx;obtain⟨cs',h3,h4⟩:=h.rowy;have e1:X[j]? =some (X[j]'(by rw[h.xm];exact hj)):=qI _;have e2:Y[j]? =some (Y[j]'(by rw[h.ym];exact hj)):=qI _;have e3:Q[j]? =some (Q[j]'(by rw[h.qm];exact hj)):=qI _;refine⟨_,_,_,e1,e2,e3,?_,?_,h.st j _ _ _ e1 e2 e3⟩
 ·rw[h1.cell];exact h2 j _ e1
 ·rw[h3.cell];exact h4 j _ e2
end
theorem zXk(v j:Nat)(w:World)(hv:v<=255)(hj:j<=62):Calls prog 45 #[.int .i64 v,.int .i64 j] w λe w'=>e= .returned (.bool (v.testBit j))/\w=w':=by have hbit:=yCb v j hv;clear hv;go_enter func45,ntmps45;go_wp2_with fail;go_ret;exact⟨rfl,rfl⟩
def fS(q:List Slot)(l:Nat):List Slot:=(q.drop (l*8)).take 8
def lsS(r:List Slot):List Ent:=r.filterMap λs=>if s.2 then some s.1 else none
theorem zDo(q:List Slot)(l k:Nat)(hk:k<8):(fS q l)[k]? =q[l*8+k]? :=by unfold fS;rw[List.getElem?_take,if_pos hk,List.getElem?_drop]
theorem zGx(q:List Slot)(l n:Nat)(h:q.length=n*8)(hl:l<n):(fS q l).length=8:=by unfold fS;rw[qY,List.length_drop,h];omega
theorem lsS_take(r:List Slot)(k:Nat)(s:Slot)(h:r[k]? =some s):lsS (r.take (k+1))=lsS (r.take k)++(if s.2 then [s.1]else []):=by rw[dB r k s h];unfold lsS;rw[List.filterMap_append];cases h2:s.2<;>simp[h2]
theorem zSv(r:List Slot):(lsS r).length<=r.length:=by unfold lsS;exact List.length_filterMap_le _ _
theorem yAd(base sb hb ib n c m hc ic:Nat)(A:Option Addr)(X Y:List Nat)(Q:List (List Slot))(w:World)(who l:Nat)(q:List Slot)(h:ShvAt w base sb hb ib n c m hc ic A X Y Q)(hw:who<m)(hl:l<n)(hq:Q[who]? =some q):Calls prog 50 #[.pointer (some ⟨sb,0,none⟩),.int .i64 who,.int .i64 l] w λe w'=>∃v,e= .returned v/\w'.ownsRow w.heap.size 125 5 v (lsS (fS q l)).length ((lsS (fS q l)).flatMap bD)/\uR w w':=by
 have hn8:=h.n8;have hm8:=h.m8;obtain⟨x,y,q',hx,hy,hq',y1,y2,hone⟩:=h.cs hw;obtain rfl:q'=q:=by rw[hq]at hq';cases hq';rfl
 have c1:=h.c1;have c2:=h.c2;have hlen:=zGx q' l n hone.len hl;obtain⟨HON,HLEN⟩:=uI hone hlen;have ltS:=h.shelves.lt;obtain⟨cs,k1,_⟩:=h.rowx;obtain⟨cs',k2,_⟩:=h.rowy;have f1:=λ(W:World) (hz:uR w W)=>(hz.cell (p:=⟨sb,1,none⟩) ltS).trans c1
 have f2:=λ(W:World) (hz:uR w W)=>(hz.cell (p:=⟨sb,2,none⟩) ltS).trans c2
 have f3:=λ(W:World) (hz:uR w W)=>(hz.cell (p:=⟨hb,who,none⟩) k1.lt).trans y1
 have f4:=λ(W:World) (hz:uR w W)=>(hz.cell (p:=⟨ib,who,none⟩) k2.lt).trans y2
 have hw':(who:Int)<(m:Int):=by omega
 have hl':(l:Int)<(n:Int):=by omega
 obtain⟨R,hR⟩:=kB (fS q' l);obtain⟨HR,HG⟩:=uI hR (λk (hk:k<8)=>zDo q' l k hk);clear h hone hlen hq hq' hx hy k1 k2 hR c1 c2 y1 y2 ltS;rw[<-HR.s]at HLEN HG;rw[<-HR.s];obtain⟨i0,hi,hz0,hz1,hz2⟩:=zHb;go_enter func50,ntmps50;go_wp2_with fail
 go_loopw [7,9] (λv j wr=>∃(k:Nat),k<=8/\j= .int .i64 k/\uS (wr.ownsRow w.heap.size 125 5 v (lsS (R.take k)).length ((lsS (R.take k)).flatMap bD))/\uS (uR w wr)) (λ_ j _=>8-(intOf j).toNat)
 case atStart=>exact⟨0,by omega,rfl,qH _ _ _ _,qC _ _⟩
 case round=>
  obtain⟨k,hk,rfl,HO,HB⟩:=hrel;have hz:=HB.s;by_cases hlt:k<8
  ·have hs:R[k]? =some (R[k]'(by rw[HLEN.s];exact hlt)):=qI _;generalize R[k]'(by rw[HLEN.s];exact hlt)=s at hs;have hqs:=(HG.s k hlt).symm.trans hs;have hW:=HON.s.only (Only.of_below hz λx h1 h2=>by omega) (D:=λ_=>False) (λe=>e) (λe=>e);have b0:=hW.cellB hqs;have HTK:=uT (lsS_take R k s hs);obtain⟨⟨s0,s1,s2,s3,s4⟩,b⟩:=s;have e0:wr.cell? ⟨x,l*40+k*5,none⟩=some (.int .i64 s0):=hW.cellE hqs 0 _ rfl;have e1:wr.cell? ⟨x,l*40+k*5+1,none⟩=some (.int .i64 s1):=hW.cellE hqs 1 _ rfl;have e2:wr.cell? ⟨x,l*40+k*5+2,none⟩=some (.int .i64 s2):=hW.cellE hqs 2 _ rfl;have e3:wr.cell? ⟨x,l*40+k*5+3,none⟩=some (.int .i64 s3):=hW.cellE hqs 3 _ rfl;have e4:wr.cell? ⟨x,l*40+k*5+4,none⟩=some (.bool s4):=hW.cellE hqs 4 _ rfl;dsimp only at b0 HTK;clear hs hqs hW;cases b
   ·go_wp2_with fail;go_roundw
    case rel=>exact⟨k+1,by omega,by go_num,by rw[HTK.s];simpa using HO,HB⟩
    case measure=>simp[intOf];omega
   ·obtain⟨A1,c1,rfl,hc1⟩:=bE HO.s;have hkl:=zSv (R.take k);have hkt:=List.length_take_le k R;obtain⟨q0,hq0⟩:=kB ((lsS (R.take k)).length);have hq8:q0<=8:=by omega
    have HQ0:=uT hq0;rw[<-hq0]at HO;rw[<-hq0];have hmq:(q0+1)*40<=140737488355328:=by omega
    have hsz:=hz.size;clear hq0 hkl hkt;go_wp2_with(first
     |(at_builtin;(refine bF _ rfl (.tmp 24) (.tmp 37) _ rfl w.heap.size 125 i0 _ 5 40 underlying103 hi hz0 hz1 hz2 rfl (by omega) (by omega) _ q0 _ HO.s rfl _ 1 _ rfl rfl rfl (by simp[Value.oneCell']) hmq hsz ?_);intro g4 cap4 w4 hg4 hown4 hbel4 hgr4 hat4))
    obtain⟨HO4,HB4⟩:=uI (show w4.ownsRow w.heap.size 125 5 (.slice (some ⟨g4,0,none⟩) (q0+1) cap4) (lsS (R.take (k+1))).length ((lsS (R.take (k+1))).flatMap bD)by rw[HTK.s,qM,<-HQ0.s,jN];simpa[bD]using hown4) (hbel4 _ _ (qA _) HB.s);clear hown4 hbel4 hgr4 hat4 hg4;go_roundw
    case rel=>exact⟨k+1,by omega,by go_num,HO4,HB4⟩
    case measure=>simp[intOf];omega
  ·obtain rfl:k=8:=by omega
   go_wp2_with fail;go_ret;exact⟨_,rfl,by have h:=HO.s;rwa[qS (by rw[HLEN.s];exact qA _)]at h,HB.s⟩
def zEc(n:Nat)(g:Nat):Value:= .slice (some ⟨g,0,none⟩) n n
def zAm(n:Nat):List Slot:=List.replicate (n*8) (Ent.zero,false)
theorem yFa(n:Nat)(z:Array Value)(hs:z.size=40)(hz:∀i:Nat,i<40->z[i]? =(bD Ent.zero)[i%5]?):madeCells z (n*40)=(zCi (zAm n)).toArray:=by
 apply zFs;intro i;rcases Nat.lt_or_ge i (n*40)with h|h
 ·rw[zIv z _ i (by omega) h,hs,hz _ (Nat.mod_lt _ (by omega))];have e:i=i/5*5+i%5:=by omega
  have h8:(zAm n)[i/5]? =some (Ent.zero,false):=by unfold zAm;rw[jV,if_pos (by omega)]
  have h5:i%5<(bD Ent.zero).length:=Nat.mod_lt _ (by decide);have:=zUl (zAm n) (i/5) _ h8 (i%5) _ (qI h5);rw[<-e]at this;simp only[jH];rw[this,show i%40%5=i%5 by omega];exact qI h5
 ·rw[Array.getElem?_eq_none (by rw[size_madeCells];exact h),Array.getElem?_eq_none];simp only[List.size_toArray];rw[yIe];unfold zAm;rw[jB];omega
theorem yGa(n:Nat)(z:Array Value)(hs:z.size=8)(hz:∀i:Nat,i<8->z[i]? =some (.bool false)):madeCells z (n*8)=(zCz (zAm n)).toArray:=by
 apply zFs;intro i;rcases Nat.lt_or_ge i (n*8)with h|h
 ·rw[zIv z _ i (by omega) h,hs,hz _ (Nat.mod_lt _ (by omega))];have h8:(zAm n)[i]? =some (Ent.zero,false):=by unfold zAm;rw[jV,if_pos (by omega)]
  have:=zMq (zAm n) i _ h8;simp only[jH];rw[this]
 ·rw[Array.getElem?_eq_none (by rw[size_madeCells];exact h),Array.getElem?_eq_none];simp only[List.size_toArray];unfold zCz zAm;rw[qQ,jB];omega
structure ShvMade(w:World)(base sb n c:Nat)(A:Option Addr)(vH vI:Value)(X Y:List Nat):Prop where
 blk:Blk w sb 123 #[.slice A n c,vH,vI]
 oh:w.ownsRow base 127 1 vH X.length (X.map (zEc n))
 oi:w.ownsRow base 119 1 vI Y.length (Y.map (zEc n))
 ex:∀x∈X,Blk w x 126 (zCi (zAm n)).toArray/\base<=x
 ey:∀y∈Y,Blk w y 118 (zCz (zAm n)).toArray/\base<=y
 ndx:X.Nodup
 ndy:Y.Nodup
 low:base<=sb
section
variable {w w':World}{base sb n c:Nat}{A:Option Addr}{vH vI:Value}{X Y:List Nat}
theorem ShvMade.calm(h:ShvMade w base sb n c A vH vI X Y)(hb:uR w w'):ShvMade w' base sb n c A vH vI X Y:=
 ⟨h.blk.below hb h.blk.lt,bI h.oh hb,bI h.oi hb,λx hx=>⟨(h.ex x hx).1.below hb (h.ex x hx).1.lt,(h.ex x hx).2⟩,λx hx=>⟨(h.ey x hx).1.below hb (h.ey x hx).1.lt,(h.ey x hx).2⟩,h.ndx,h.ndy,h.low⟩
theorem zSa{X:List Nat}{x:Nat}(h:X.Nodup)(hx:x∉X):(X++[x]).Nodup:=by rw[List.nodup_append];exact⟨h,by simp,λa ha b hb e=>by rw[jJ]at hb;subst hb;subst e;exact hx ha⟩
theorem ShvMade.putX(h:ShvMade w base sb n c A vH vI X Y){x:Nat}{v:Value}(hx:Blk w x 126 (zCi (zAm n)).toArray)(hl:base<=x)(hn:x∉X)(hg:w.grownBy w' vH.ownBlock)(ho:w'.ownsRow base 127 1 v (X.length+1) (X.map (zEc n)++[zEc n x])):ShvMade (w'.setCell ⟨sb,1,none⟩ v) base sb n c A v vI (X++[x]) Y:=by
 have h1:Only (λk=>vH.ownBlock=some k) w w':=(Only.refl _ _).grown hg (λg hg _=>hg);have h2:Only (λk=>k=sb) w' (w'.setCell ⟨sb,1,none⟩ v):=bJ (Only.refl _ _) _ _;have h3:Only (λk=>vH.ownBlock=some k\/k=sb) w (w'.setCell ⟨sb,1,none⟩ v):=(h1.mono λ_ _ h=>Or.inl h).trans h2 λ_ _ h=>Or.inr h
 have hb:=(h.blk.only h1 λe=>bC h.oh h.blk (by decide) e);have hex:∀x,Blk w x 126 (zCi (zAm n)).toArray->Blk (w'.setCell ⟨sb,1,none⟩ v) x 126 (zCi (zAm n)).toArray:=λx hx=>hx.only h3 (by
  rintro(e|e)
  ·exact bC h.oh hx (by decide) e
  ·exact hx.ne_ h.blk (by decide) e)
 refine⟨hb.set_ 1 v,?_,?_,?_,?_,zSa h.ndx hn,h.ndy,h.low⟩
 ·have:=bL ho h2 (λg hg e=>bC ho hb (by decide) (by rw[hg,e]));simpa using this
 ·exact bL h.oi h3 (λg hg=>by
   rintro(e|e)
   ·rcases dV h.oi h.oh (by decide)with e1|e1
    ·rw[e1]at hg;cases hg
    ·exact e1 (by rw[hg,e])
   ·exact bC h.oi h.blk (by decide) (by rw[hg,e]))
 ·intro z hz;rcases jI.1 hz with hz|hz
  ·exact⟨hex z (h.ex z hz).1,(h.ex z hz).2⟩
  ·rw[jJ]at hz;subst hz;exact⟨hex z hx,hl⟩
 ·intro z hz;refine⟨(h.ey z hz).1.only h3 ?_,(h.ey z hz).2⟩;rintro(e|e)
  ·exact bC h.oh (h.ey z hz).1 (by decide) e
  ·exact(h.ey z hz).1.ne_ h.blk (by decide) e
theorem ShvMade.putY(h:ShvMade w base sb n c A vH vI X Y){y:Nat}{v:Value}(hy:Blk w y 118 (zCz (zAm n)).toArray)(hl:base<=y)(hn:y∉Y)(hg:w.grownBy w' vI.ownBlock)(ho:w'.ownsRow base 119 1 v (Y.length+1) (Y.map (zEc n)++[zEc n y])):ShvMade (w'.setCell ⟨sb,2,none⟩ v) base sb n c A vH v X (Y++[y]):=by
 have h1:Only (λk=>vI.ownBlock=some k) w w':=(Only.refl _ _).grown hg (λg hg _=>hg);have h2:Only (λk=>k=sb) w' (w'.setCell ⟨sb,2,none⟩ v):=bJ (Only.refl _ _) _ _;have h3:Only (λk=>vI.ownBlock=some k\/k=sb) w (w'.setCell ⟨sb,2,none⟩ v):=(h1.mono λ_ _ h=>Or.inl h).trans h2 λ_ _ h=>Or.inr h
 have hb:=(h.blk.only h1 λe=>bC h.oi h.blk (by decide) e);have hey:∀x,Blk w x 118 (zCz (zAm n)).toArray->Blk (w'.setCell ⟨sb,2,none⟩ v) x 118 (zCz (zAm n)).toArray:=λx hx=>hx.only h3 (by
  rintro(e|e)
  ·exact bC h.oi hx (by decide) e
  ·exact hx.ne_ h.blk (by decide) e)
 refine⟨hb.set_ 2 v,?_,?_,?_,?_,h.ndx,zSa h.ndy hn,h.low⟩
 ·exact bL h.oh h3 (λg hg=>by
   rintro(e|e)
   ·rcases dV h.oh h.oi (by decide)with e1|e1
    ·rw[e1]at hg;cases hg
    ·exact e1 (by rw[hg,e])
   ·exact bC h.oh h.blk (by decide) (by rw[hg,e]))
 ·have:=bL ho h2 (λg hg e=>bC ho hb (by decide) (by rw[hg,e]));simpa using this
 ·intro z hz;refine⟨(h.ex z hz).1.only h3 ?_,(h.ex z hz).2⟩;rintro(e|e)
  ·exact bC h.oi (h.ex z hz).1 (by decide) e
  ·exact(h.ex z hz).1.ne_ h.blk (by decide) e
 ·intro z hz;rcases jI.1 hz with hz|hz
  ·exact⟨hey z (h.ey z hz).1,(h.ey z hz).2⟩
  ·rw[jJ]at hz;subst hz;exact⟨hey z hy,hl⟩
theorem zYa{w:World}{base n:Nat}{e:TypeId}{v:Value}{xs:List Value}(h:w.ownsRow base e 1 v n xs)(hn:0<n):∃g cap cs,v= .slice (some ⟨g,0,none⟩) n cap/\base<=g/\n<=cap/\Blk w g e cs/\∀(j:Nat) (u:Value),xs[j]? =some u->cs[j]? =some u:=by
 rcases h.2 with⟨h1,h2⟩|⟨g,cap,cur,h1,hb,hh,hnc,hcm,hs,ht⟩
 ·omega
 ·refine⟨g,cap,cur,h1,hb,hnc,hh,λj u hj=> ?_⟩;rw[<-ht,List.getElem?_take]at hj
  split at hj
  ·simpa using hj
  ·cases hj
theorem ShvMade.done(h:ShvMade w base sb n c A vH vI X Y){m:Nat}(hx:X.length=m)(hy:Y.length=m)(hm0:0<m)(hm:m<=60)(hn:n<=1000):∃hb ib hc ic,ShvAt w base sb hb ib n c m hc ic A X Y (List.replicate m (zAm n)):=by obtain⟨hb,hc,cs,rfl,l1,l2,k1,k2⟩:=zYa h.oh (by omega);obtain⟨ib,ic,cs',rfl,l3,l4,k3,k4⟩:=zYa h.oi (by omega);have hB:=h.blk;rw[hx,hy]at hB;refine⟨hb,ib,hc,ic,hn,hm,hx,hy,by simp,⟨by omega,by omega⟩,hB,⟨cs,k1,λj g hj=>k2 j _ (by simp[hj,zEc])⟩,⟨cs',k3,λj g hj=>k4 j _ (by simp[hj,zEc])⟩,λj x y q hxj hyj hq=> ?_,h.ndx,h.ndy,h.low,l1,l3⟩;obtain rfl:=jT (qB hq);have a1:=h.ex x (qB hxj);have a2:=h.ey y (qB hyj);exact⟨a1.1,a2.1,by simp[zAm],a1.2,a2.2⟩
end
theorem e84_info:∃i,prog.info? 126=some i/\∃z,i.zero=some z/\z.cells.toList=(List.replicate 8 (bD Ent.zero)).flatten/\i.size=40/\i.bytes=320:=zAb (by kernel_rfl)
theorem b8_info:∃i,prog.info? 118=some i/\∃z,i.zero=some z/\z.cells.toList=List.replicate 8 (Value.bool false)/\i.size=8/\i.bytes=8:=zAb (by kernel_rfl)
theorem se8_info:∃i,prog.info? 127=some i/\i.zero=some (.slice none 0 0)/\i.size=1/\i.bytes=24:=gB (by kernel_rfl)
theorem sb8_info:∃i,prog.info? 119=some i/\i.zero=some (.slice none 0 0)/\i.size=1/\i.bytes=24:=gB (by kernel_rfl)
theorem zTu(A:Option Addr)(n c m:Nat)(w:World)(hn:n<=1000)(hm:m<=60)(hm0:1<=m):Calls prog 41 #[.int .i64 m,.slice A n c] w λe w'=>∃sb hb ib hc ic X Y,e= .returned (.pointer (some ⟨sb,0,none⟩))/\ShvAt w' w.heap.size sb hb ib n c m hc ic A X Y (List.replicate m (zAm n))/\uR w w':=by
 obtain⟨i1,hi1,z1,hz1,hc1,hs1,hy1⟩:=e84_info;obtain⟨i2,hi2,z2,hz2,hc2,hs2,hy2⟩:=b8_info;obtain⟨i3,hi3,hz3,hs3,hy3⟩:=se8_info;obtain⟨i4,hi4,hz4,hs4,hy4⟩:=sb8_info;have hmkE:=λW=>dN (P:=prog) 127 126 i1 _ underlying127 hi1 hz1 .i64 .i64 n n (qA _) (by rw[hy1];omega) (by omega) W
 have hmkB:=λW=>dN (P:=prog) 119 118 i2 _ underlying119 hi2 hz2 .i64 .i64 n n (qA _) (by rw[hy2];omega) (by omega) W
 rw[hs1,yFa n z1.cells (by have:=congrArg List.length hc1;simp at this;rw[this];rfl) (λk hk=>by
  have e:z1.cells[k]? =z1.cells.toList[k]? :=by simp
  rw[e,hc1];have:=zDw 5 (List.replicate 8 (bD Ent.zero)) (λcs h=>by rw[jT h];rfl) (k/5) (k%5) (Nat.mod_lt _ (by omega));rw[show k/5*5+k%5=k by omega]at this;rw[this,jV,if_pos (by omega)];rfl)]at hmkE
 rw[hs2,yGa n z2.cells (by have:=congrArg List.length hc2;simpa using this) (λk hk=>by
  have e:z2.cells[k]? =z2.cells.toList[k]? :=by simp
  rw[e,hc2,jV,if_pos hk])]at hmkB
 obtain⟨HMKE,HMKB,HWS⟩:=uJ hmkE hmkB (show(1:Nat)<=m from hm0);obtain⟨sz,hsz⟩:=kB w.heap.size;clear hmkE hmkB hz1 hc1 hs1 hy1 hi1 hi2 hz2 hc2 hs2 hy2 hm0;clear hsz;go_enter func41,ntmps41
 go_upto_block 0 with fail
 obtain⟨sb,hsb⟩:=kB w.heap.size;obtain⟨w1,hw1⟩:=kB (w.alloc (.cells #[.slice A n c,.slice none 0 0,.slice none 0 0] 123));have hb1:=uH hw1;have k1:Blk w1 sb 123 #[.slice A n c,.slice none 0 0,.slice none 0 0]:=by rw[hw1,hsb];exact Blk.new w 123 _
 have HM0:uS (ShvMade w1 w.heap.size sb n c A (.slice none 0 0) (.slice none 0 0) [] []):=⟨k1,qH _ _ _ _,qH _ _ _ _,λx h=>by simp at h,λx h=>by simp at h,List.nodup_nil,List.nodup_nil,by rw[hsb];exact qA _⟩;have hz0:uR w w1:=hb1;rw[<-hw1,<-hsb];clear hb1 k1 hsb hw1;go_wp2_with fail
 go_loopw [6] (λj wr=>∃(i:Nat) (vH vI:Value) (X Y:List Nat),i<=m/\j= .int .i64 i/\uS (X.length=i/\Y.length=i)/\uS (ShvMade wr w.heap.size sb n c A vH vI X Y)/\uR w wr) (λj _=>m-(intOf j).toNat)
 case atStart=>exact⟨0,_,_,[],[],qL _,rfl,uT ⟨rfl,rfl⟩,HM0,hz0⟩
 case round=>
  obtain⟨i,vH,vI,X,Y,hi,rfl,HL,HM,hz⟩:=hrel;by_cases hlt:i<m
  ·have c1:wr.cell? ⟨sb,1,none⟩=some vH:=HM.s.blk.cell 1;have hlt':(i:Int)<(m:Int):=by omega
   go_upto_region 5 with fail;have ce1:=λn:Ext wr=>n.cell c1
   refine bO [0] [1,2,3,4,5,6] [] [7,8] 9 [10,11,12] (by kernel_rfl) (by kernel_rfl) (by intro c a d v w h;cases d<;>exact h) ?_;simp only[bB,qJ,qO,qD,qE]
   repeat(go_big_quiet_step (fail))
   refine qF ?_
   repeat(go_big_quiet_step (fail))
   refine qF (qF ?_);rintro W ⟨nq,hW⟩;have hWB:uR wr W:=hW▸nq.h;clear hW;simp only[fJ];clear ce1;have hk1:=HMKE.s W;go_wp2_with fail;refine⟨⟨⟨_,hWB.alloc hWB.size _⟩,rfl⟩,?_⟩;clear hk1;go_wp2_with fail;refine⟨⟨⟨_,(hWB.alloc hWB.size _).alloc (by simp;exact Nat.le_succ_of_le hWB.size) _⟩,rfl⟩,?_⟩;obtain⟨w2,hw2⟩:=kB (W.alloc (.cells (zCi (zAm n)).toArray 126));have hb2:=uH hw2;have k2:Blk w2 W.heap.size 126 (zCi (zAm n)).toArray:=by rw[hw2];exact Blk.new W _ _
   obtain⟨x,hx⟩:=kB W.heap.size;rw[<-hx]at k2;have hM2:=(HM.s.calm hWB).calm hb2;have hxX:x∉X:=λhm=>by have:=(HM.s.calm hWB).ex x hm;have:=this.1.lt;omega
   have hxl:w.heap.size<=x:=by have:=hz.size;have:=hWB.size;omega
   have HZ2:=uT ((hz.trans (hWB.mono hz.size)).trans (hb2.mono (by have:=hz.size;have:=hWB.size;omega)));have hs2:=HZ2.s.size;obtain⟨AH,cH,rfl,_⟩:=bE hM2.oh;obtain⟨HM2,HK2,HXX,HLX⟩:=uK hM2 k2 hxX hxl;have hXl:(X.length+1)*24<=140737488355328:=by have:=HL.s.1;omega
   have hfb:=hM2.blk.frozen 1;rw[<-hw2,<-hx];have hsz2:w2.heap.size=x+1:=by rw[hw2,hx];simp
   have HSZ2:=uT hsz2;clear hw2 hb2 k2 hx hM2 hxX hxl hsz2;go_wp2_with(first
    |(at_builtin;(refine bF w2 rfl (.tmp 19) (.tmp 23) _ rfl w.heap.size 127 i3 _ 1 24 underlying120 hi3 hz3 hs3 hy3 rfl (by omega) (by omega) _ _ _ HM2.s.oh rfl _ 1 _ rfl HSZ2.s rfl (by simp[Value.oneCell']) hXl (Nat.le_succ_of_le HLX.s) ?_);intro g4 cap4 w4 hg4 hown4 hbel4 hgr4 hat4;have HB4:=uT (hbel4 w.heap.size w (qA _) HZ2.s);have HM4:=uT (HM2.s.putX HK2.s HLX.s HXX.s hgr4 hown4);have u0:=(HM2.s.blk.only ((Only.refl _ _).grown hgr4 (D:=λk=>Value.ownBlock (.slice AH X.length cH)=some k) λg hg _=>hg) λe=>bC HM2.s.oh HM2.s.blk (by decide) e).cell 1;have u1:=(HM2.s.blk.only ((Only.refl _ _).grown hgr4 (D:=λk=>Value.ownBlock (.slice AH X.length cH)=some k) λg hg _=>hg) λe=>bC HM2.s.oh HM2.s.blk (by decide) e).frozen 1;clear hg4 hown4 hbel4 hgr4 hat4))
   have HB5:=uT (HB4.s.setCell (p:=⟨sb,1,none⟩) (by have:=HM.s.low;exact this) (.slice (some ⟨g4,0,none⟩) (X.length+1) cap4));generalize w4.setCell ⟨sb,1,none⟩ (.slice (some ⟨g4,0,none⟩) (X.length+1) cap4)=w5 at*;clear u0 u1;have c2:w5.cell? ⟨sb,2,none⟩=some vI:=HM4.s.blk.cell 2;have ce2:=λn:Ext w5=>n.cell c2
   clear c1;refine bO [0] [1,2,3,4,5,6] [] [7,8] 9 [10,11,12] (by kernel_rfl) (by kernel_rfl) (by intro c a d v w h;cases d<;>exact h) ?_;simp only[bB,qJ,qO,qD,qE]
   repeat(go_big_quiet_step (fail))
   refine qF ?_
   repeat(go_big_quiet_step (fail))
   refine qF (qF ?_);rintro W ⟨nq,hW⟩;have hWB:uR w5 W:=hW▸nq.h;clear hW;simp only[fJ];clear ce2 c2;have hk1:=HMKB.s W;go_wp2_with fail;refine⟨⟨⟨_,hWB.alloc hWB.size _⟩,rfl⟩,?_⟩;clear hk1;go_wp2_with fail;refine⟨⟨⟨_,(hWB.alloc hWB.size _).alloc (by simp;exact Nat.le_succ_of_le hWB.size) _⟩,rfl⟩,?_⟩;obtain⟨w6,hw6⟩:=kB (W.alloc (.cells (zCz (zAm n)).toArray 118));have hb6:=uH hw6;have k6:Blk w6 W.heap.size 118 (zCz (zAm n)).toArray:=by rw[hw6];exact Blk.new W _ _
   obtain⟨y,hy⟩:=kB W.heap.size;rw[<-hy]at k6;have hM6:=(HM4.s.calm hWB).calm hb6;have hyY:y∉Y:=λhm=>by have:=(HM4.s.calm hWB).ey y hm;have:=this.1.lt;omega
   have hz5:=HB5.s;have hyl:w.heap.size<=y:=by have:=hz5.size;have:=hWB.size;omega
   have HZ6:=uT ((hz5.trans (hWB.mono hz5.size)).trans (hb6.mono (by have:=hz5.size;have:=hWB.size;omega)));obtain⟨AI,cI,rfl,_⟩:=bE hM6.oi;obtain⟨HM6,HK6,HYY,HLY⟩:=uK hM6 k6 hyY hyl;have hYl:(Y.length+1)*24<=140737488355328:=by have:=HL.s.2;omega
   have hfb:=hM6.blk.frozen 2;rw[<-hw6,<-hy];have hsz6:w6.heap.size=y+1:=by rw[hw6,hy];simp
   have HSZ6:=uT hsz6;clear hw6 hb6 k6 hy hM6 hyY hyl hsz6 hz5;go_wp2_with(first
    |(at_builtin;(refine bF w6 rfl (.tmp 31) (.tmp 35) _ rfl w.heap.size 119 i4 _ 1 24 underlying121 hi4 hz4 hs4 hy4 rfl (by omega) (by omega) _ _ _ HM6.s.oi rfl _ 1 _ rfl HSZ6.s rfl (by simp[Value.oneCell']) hYl (Nat.le_succ_of_le HLY.s) ?_);intro g7 cap7 w7 hg7 hown7 hbel7 hgr7 hat7;have HB7:=uT (hbel7 w.heap.size w (qA _) HZ6.s);have HM7:=uT (HM6.s.putY HK6.s HLY.s HYY.s hgr7 hown7);have u0:=(HM6.s.blk.only ((Only.refl _ _).grown hgr7 (D:=λk=>Value.ownBlock (.slice AI Y.length cI)=some k) λg hg _=>hg) λe=>bC HM6.s.oi HM6.s.blk (by decide) e).cell 2;have u1:=(HM6.s.blk.only ((Only.refl _ _).grown hgr7 (D:=λk=>Value.ownBlock (.slice AI Y.length cI)=some k) λg hg _=>hg) λe=>bC HM6.s.oi HM6.s.blk (by decide) e).frozen 2;clear hg7 hown7 hbel7 hgr7 hat7))
   go_roundw
   case rel=>exact⟨i+1,_,_,X++[x],Y++[y],by omega,by go_num,uT (by simp[HL.s.1,HL.s.2]),HM7,HB7.s.setCell (p:=⟨sb,2,none⟩) (by have:=HM.s.low;exact this) _⟩
   case measure=>simp[intOf];omega
  ·obtain rfl:i=m:=by omega
   go_wp2_with fail;go_ret;obtain⟨hb,ib,hc,ic,hs⟩:=HM.s.done HL.s.1 HL.s.2 HWS.s hm hn;exact⟨sb,hb,ib,hc,ic,X,Y,rfl,hs,hz⟩
def zLv(w:World)(g o:Nat)(e:Ent):World:=((((w.setCell ⟨g,o,none⟩ (.int .i64 e.key)).setCell ⟨g,o+1,none⟩ (.int .i64 e.value)).setCell ⟨g,o+2,none⟩ (.int .i64 e.time)).setCell ⟨g,o+3,none⟩ (.int .i64 e.who)).setCell ⟨g,o+4,none⟩ (.bool e.gone)
theorem zHy(w:World)(g o:Nat)(e:Ent):Only (λk=>k=g) w (zLv w g o e):=
 bJ (bJ (bJ (bJ (bJ (Only.refl _ _) _ _) _ _) _ _) _ _) _ _
theorem yEd(q:List Slot)(p:Nat)(s:Slot)(e:Ent)(b:Bool)(hs:q[p]? =some s):((((((zCi q).set (p*5) (.int .i64 e.key)).set (p*5+1) (.int .i64 e.value)).set (p*5+2) (.int .i64 e.time)).set (p*5+3) (.int .i64 e.who)).set (p*5+4) (.bool e.gone))=zCi (q.set p (e,b)):=by
 have h:=zUu (q.map (·.1)) p s.1 e (by simp[hs]);have e1:(q.map (·.1)).flatMap bD=zCi q:=by rw[List.flatMap_map];rfl
 have e2:((q.map (·.1)).set p e).flatMap bD=zCi (q.set p (e,b)):=by rw[show(q.map (·.1)).set p e=(q.set p (e,b)).map (·.1)by rw[List.map_set],List.flatMap_map];rfl
 rw[e1,e2]at h;exact h
theorem zVo(q:List Slot)(p:Nat)(e:Ent)(b:Bool):(zCz q).set p (.bool b)=zCz (q.set p (e,b)):=by unfold zCz;rw[List.map_set]
theorem yCt(q:List Slot)(p:Nat)(s:Slot)(e:Ent)(hs:q[p]? =some s):zCz (q.set p (e,s.2))=zCz q:=by rw[<-zVo];exact list_set_self _ _ _ (zMq q p s hs)
where list_set_self (l:List Value) (p:Nat) (v:Value) (h:l[p]? =some v):l.set p v=l:=by
        apply List.ext_getElem?;intro i;rw[List.getElem?_set]
        split
        ·rename_i h1;subst h1;split
         ·exact h.symm
         ·rename_i h2;rw[qU (by omega)]at h;cases h
        ·rfl
theorem yDx(q:List Slot)(p:Nat)(s:Slot)(b:Bool)(hs:q[p]? =some s):zCi (q.set p (s.1,b))=zCi q:=by
 have e2:∀q:List Slot,zCi q=(q.map (·.1)).flatMap bD:=λq=>by rw[List.flatMap_map];rfl
 rw[e2,e2,List.map_set]
 congr 1
 apply List.ext_getElem?;intro i;rw[List.getElem?_set]
 split
 ·rename_i h1;subst h1;split
  ·simp[hs]
  ·rename_i h2;simp at h2;rw[qU h2]at hs;cases hs
 ·rfl
section
variable {w:World}{base x y n:Nat}{q:List Slot}
theorem ShvOne.putE(h:ShvOne w base x y n q){l k:Nat}{s:Slot}(hs:q[l*8+k]? =some s)(e:Ent):ShvOne (zLv w x (l*40+k*5) e) base x y n (q.set (l*8+k) (e,s.2)):=by
 have h5:=((((h.ents.set_ ((l*8+k)*5) (.int .i64 e.key)).set_ ((l*8+k)*5+1) (.int .i64 e.value)).set_ ((l*8+k)*5+2) (.int .i64 e.time)).set_ ((l*8+k)*5+3) (.int .i64 e.who)).set_ ((l*8+k)*5+4) (.bool e.gone);rw[show(l*8+k)*5=l*40+k*5 by omega]at h5;refine⟨?_,?_,by rw[List.length_set];exact h.len,h.lowx,h.lowy⟩
 ·have e1:=yEd q (l*8+k) s e s.2 hs;rw[show(l*8+k)*5=l*40+k*5 by omega]at e1;simp only[List.setIfInBounds_toArray]at h5;rw[e1]at h5;exact h5
 ·rw[yCt q _ s e hs];exact h.bits.only (zHy w x _ e) (λe=>h.bits.ne_ h.ents (by decide) e)
theorem ShvOne.putB(h:ShvOne w base x y n q){l k:Nat}{s:Slot}(hs:q[l*8+k]? =some s)(b:Bool):ShvOne (w.setCell ⟨y,l*8+k,none⟩ (.bool b)) base x y n (q.set (l*8+k) (s.1,b)):=by
 refine⟨?_,?_,by rw[List.length_set];exact h.len,h.lowx,h.lowy⟩
 ·rw[yDx q _ s b hs];exact h.ents.far (h.ents.ne_ h.bits (by decide)) _
 ·have h1:=h.bits.set_ (l*8+k) (.bool b);simp only[List.setIfInBounds_toArray]at h1;rw[zVo q _ s.1 b]at h1;exact h1
end
def zCm(r:List Slot)(t:Int):Int:=r.foldl (λt s=>if s.2&&decide (t<s.1.time)then s.1.time else t) t
def setS(q:List Slot)(l:Nat)(who key value:Int)(gone:Bool):List Slot:=q.set (l*8+key.toNat) (⟨key,value,zCm (fS q l) 0+1,who,gone⟩,true)
def yCf(base sb hb ib n c m hc ic:Nat)(A:Option Addr)(X Y:List Nat)(Q:List (List Slot))(x y who:Nat)(q':List Slot)(w:World)(e:Ending)(w':World):Prop:=
 e= .returned (.tuple #[])/\ShvAt w' base sb hb ib n c m hc ic A X Y (Q.set who q')/\Only (λk=>k=x\/k=y) w w'
theorem yDn(base sb hb ib n c m hc ic:Nat)(A:Option Addr)(X Y:List Nat)(Q:List (List Slot))(w:World)(who l key x y:Nat)(value:Int)(gone:Bool)(q:List Slot)(h:ShvAt w base sb hb ib n c m hc ic A X Y Q)(hw:who<m)(hl:l<n)(hk:key<8)(hx:X[who]? =some x)(hy:Y[who]? =some y)(hq:Q[who]? =some q)(ht:∀s∈fS q l,s.2=true->0<=s.1.time/\s.1.time<=2000000):Calls prog 46 #[.pointer (some ⟨sb,0,none⟩),.int .i64 who,.int .i64 l,.int .i64 key,.int .i64 value,.bool gone] w (yCf base sb hb ib n c m hc ic A X Y Q x y who (setS q l who key value gone) w):=by
 have hn8:=h.n8;have hm8:=h.m8;obtain⟨x',y',q',hx',hy',hq',y1,y2,hone⟩:=h.cs hw;obtain rfl:q'=q:=by rw[hq]at hq';cases hq';rfl
 obtain rfl:x'=x:=by rw[hx]at hx';cases hx';rfl
 obtain rfl:y'=y:=by rw[hy]at hy';cases hy';rfl
 have c1:=h.c1;have c2:=h.c2;have hlen:=zGx q' l n hone.len hl;obtain⟨HON,HLEN,HH⟩:=uJ hone hlen h;have hw':(who:Int)<(m:Int):=by omega
 have hl':(l:Int)<(n:Int):=by omega
 have hk':(key:Int)<8:=by omega
 obtain⟨R,hR⟩:=kB (fS q' l);obtain⟨HR,HG,HT,HX,HY,HQ⟩:=uM hR (λk (hk:k<8)=>zDo q' l k hk) ht hx hy hq;clear h hone hlen hq hq' hx hy hx' hy' hR ht;rw[<-HR.s]at HLEN HG HT;have HF:=uT (show setS q' l who key value gone=q'.set (l*8+key) (⟨key,value,zCm R 0+1,who,gone⟩,true)by rw[HR.s];unfold setS;rw[qR]);go_enter func46,ntmps46;go_wp2_with fail
 go_loop [12,14] (λt j=>∃(k:Nat) (z:Int),k<=8/\j= .int .i64 k/\t= .int .i64 z/\(0<=z/\z<=2000000)/\uS (zCm (R.drop k) z=zCm R 0)) (λ_ j=>8-(intOf j).toNat)
 case atStart=>exact⟨0,0,by omega,rfl,rfl,by omega,rfl⟩
 case round=>
  obtain⟨k,z,hk,rfl,rfl,hz,HS⟩:=hrel;by_cases hlt:k<8
  ·have hs:R[k]? =some (R[k]'(by rw[HLEN.s];exact hlt)):=qI _;generalize R[k]'(by rw[HLEN.s];exact hlt)=s at hs;have hqs:=(HG.s k hlt).symm.trans hs;have b0:=HON.s.cellB hqs;obtain⟨HS2,HTS⟩:=uI (show zCm (R.drop (k+1)) (if s.2&&decide (z<s.1.time)then s.1.time else z)=zCm R 0 by have h:=HS.s;rw[cZ R k s hs]at h;exact h) (HT.s s (qB hs));obtain⟨⟨s0,s1,s2,s3,s4⟩,b⟩:=s;have e2:w.cell? ⟨x',l*40+k*5+2,none⟩=some (.int .i64 s2):=HON.s.cellE hqs 2 _ rfl;dsimp only at b0 HS2 HTS;clear hs hqs HS;cases b
   ·go_wp2_with fail
    go_round
    case rel=>exact⟨k+1,z,by omega,by go_num,rfl,hz,by simpa using HS2⟩
    case measure=>simp[intOf];omega
   ·have hts:=HTS.s rfl;by_cases hzt:z<s2
    ·go_wp2_with fail
     go_round
     case rel=>exact⟨k+1,s2,by omega,by go_num,rfl,hts,by simpa[hzt]using HS2⟩
     case measure=>simp[intOf];omega
    ·go_wp2_with fail
     go_round
     case rel=>exact⟨k+1,z,by omega,by go_num,rfl,hz,by simpa[hzt]using HS2⟩
     case measure=>simp[intOf];omega
  ·obtain rfl:k=8:=by omega
   have HZ:=uT (show zCm R 0=z by have h:=HS.s;rw[qW (by rw[HLEN.s];exact qA _)]at h;exact h.symm);have hs:R[key]? =some (R[key]'(by rw[HLEN.s];assumption)):=qI _;generalize R[key]'(by rw[HLEN.s];assumption)=s at hs;have hqs:=(HG.s key (by assumption)).symm.trans hs;have HQS:=uT hqs;have f0:∀j,w.frozen? ⟨x',j,none⟩=false:=HON.s.ents.frozen;have g0:∀j,w.frozen? ⟨y',j,none⟩=false:=HON.s.bits.frozen;have b0:=HON.s.cellB hqs;have e0:w.cell? ⟨x',l*40+key*5,none⟩=some (.int .i64 s.1.key):=HON.s.cellE hqs 0 _ rfl;have e1:w.cell? ⟨x',l*40+key*5+1,none⟩=some (.int .i64 s.1.value):=HON.s.cellE hqs 1 _ rfl;have e2:w.cell? ⟨x',l*40+key*5+2,none⟩=some (.int .i64 s.1.time):=HON.s.cellE hqs 2 _ rfl;have e3:w.cell? ⟨x',l*40+key*5+3,none⟩=some (.int .i64 s.1.who):=HON.s.cellE hqs 3 _ rfl;have e4:w.cell? ⟨x',l*40+key*5+4,none⟩=some (.bool s.1.gone):=HON.s.cellE hqs 4 _ rfl;clear hs hqs HS;go_upto_region 8 with fail;obtain⟨w5,hw5⟩:=kB (zLv w x' (l*40+key*5) ⟨key,value,z+1,who,gone⟩);have hw6:((((w.setCell ⟨x',l*40+key*5,none⟩ (.int .i64 key)).setCell ⟨x',l*40+key*5+1,none⟩ (.int .i64 value)).setCell ⟨x',l*40+key*5+2,none⟩ (.int .i64 (z+1))).setCell ⟨x',l*40+key*5+3,none⟩ (.int .i64 who)).setCell ⟨x',l*40+key*5+4,none⟩ (.bool gone)=w5:=hw5.symm;rw[hw6];clear hw6;have hO5:Only (λk=>k=x') w w5:=by rw[hw5];exact zHy _ _ _ _
   have h5:=HON.s.putE HQS.s ⟨key,value,z+1,who,gone⟩;rw[<-hw5]at h5;have hA5:=HH.s.put HX.s HY.s HQ.s h5 (hO5.mono λ_ _ e=>Or.inl e);have q5:(q'.set (l*8+key) ((⟨key,value,z+1,who,gone⟩:Ent),s.2))[l*8+key]? =some ((⟨key,value,z+1,who,gone⟩:Ent),s.2):=jM (qK.1 HQS.s).1;have h6:=h5.putB q5 true;rw[List.set_set]at h6;have p2:=hA5.c2;obtain⟨x2,y2',q2,j1,j2,j3,j4,j5,_⟩:=hA5.cs hw;obtain rfl:y2'=y':=by have:=HY.s;rw[j2]at this;cases this;rfl
   have pb:=h5.cellB q5;have pf:=h5.bits.frozen (l*8+key);obtain⟨HO5,H6⟩:=uI hO5 h6;clear hw5 hO5 h5 hA5 h6 q5 j1 j2 j3 j4 c1 y1 y2 e0 e1 e2 e3 e4 f0 g0 b0;go_wp2_with fail
   go_end0
   have hO6:Only (λk=>k=y2') w5 (w5.setCell ⟨y2',l*8+key,none⟩ (.bool true)):=bJ (Only.refl _ _) _ _;have hOO:Only (λk=>k=x'\/k=y2') w (w5.setCell ⟨y2',l*8+key,none⟩ (.bool true)):=(HO5.s.mono λ_ _ e=>Or.inl e).trans hO6 (λ_ _ e=>Or.inr e);refine⟨rfl,?_,hOO⟩;rw[HF.s,HZ.s];exact HH.s.put HX.s HY.s HQ.s H6.s hOO
def zFa(q:List Slot)(l:Nat)(e:Ent):List Slot:=
 match q[l*8+e.key.toNat]? with
 |some (x,b)=>if !b||zDe e x then q.set (l*8+e.key.toNat) (e,true)else q
 |none=>q
theorem zJq{α:Type}(l:List α)(p:Nat)(v:α)(h:l[p]? =some v):l.set p v=l:=by
 apply List.ext_getElem?;intro i;rw[List.getElem?_set]
 split
 ·rename_i h1;subst h1;split
  ·exact h.symm
  ·rename_i h2;rw[qU (by omega)]at h;cases h
 ·rfl
theorem zXq(base sb hb ib n c m hc ic:Nat)(A:Option Addr)(X Y:List Nat)(Q:List (List Slot))(w:World)(who l x y:Nat)(e:Ent)(q:List Slot)(h:ShvAt w base sb hb ib n c m hc ic A X Y Q)(hw:who<m)(hl:l<n)(hk:0<=e.key/\e.key<8)(hx:X[who]? =some x)(hy:Y[who]? =some y)(hq:Q[who]? =some q):Calls prog 74 #[.pointer (some ⟨sb,0,none⟩),.int .i64 who,.int .i64 l,zCe e] w (yCf base sb hb ib n c m hc ic A X Y Q x y who (zFa q l e) w):=by
 have hn8:=h.n8;have hm8:=h.m8;obtain⟨e0,e1,e2,e3,e4⟩:=e;dsimp only at hk;obtain⟨key,rfl⟩:∃z:Nat,e0=z:=⟨e0.toNat,by omega⟩;have hk8:key<8:=by omega
 obtain⟨wx,hwx⟩:=kB (w.alloc (.cells #[.int .i64 key,.int .i64 e1,.int .i64 e2,.int .i64 e3,.bool e4] 125));have hbx:=uH hwx;obtain⟨p,hp⟩:=kB w.heap.size;have kx:Blk wx p 125 #[.int .i64 key,.int .i64 e1,.int .i64 e2,.int .i64 e3,.bool e4]:=by rw[hwx,hp];exact Blk.new w 125 _
 have hX:=h.calm hbx;obtain⟨x',y',q',hx',hy',hq',y1,y2,hone⟩:=hX.cs hw;obtain rfl:q'=q:=by rw[hq]at hq';cases hq';rfl
 obtain rfl:x'=x:=by rw[hx]at hx';cases hx';rfl
 obtain rfl:y'=y:=by rw[hy]at hy';cases hy';rfl
 have c1:=hX.c1;have c2:=hX.c2;have hlen:=hone.len;have hs:q'[l*8+key]? =some (q'[l*8+key]'(by omega)):=qI _;generalize q'[l*8+key]'(by omega)=s at hs;have HF:=uT (show zFa q' l ⟨key,e1,e2,e3,e4⟩=if !s.2||zDe ⟨key,e1,e2,e3,e4⟩ s.1 then q'.set (l*8+key) (⟨key,e1,e2,e3,e4⟩,true)else q' by unfold zFa;dsimp only;rw[qR,hs]);have b0:=hone.cellB hs;obtain⟨⟨s0,s1,s2,s3,s4⟩,b⟩:=s;have z0:wx.cell? ⟨x',l*40+key*5,none⟩=some (.int .i64 s0):=hone.cellE hs 0 _ rfl;have z1:wx.cell? ⟨x',l*40+key*5+1,none⟩=some (.int .i64 s1):=hone.cellE hs 1 _ rfl;have z2:wx.cell? ⟨x',l*40+key*5+2,none⟩=some (.int .i64 s2):=hone.cellE hs 2 _ rfl;have z3:wx.cell? ⟨x',l*40+key*5+3,none⟩=some (.int .i64 s3):=hone.cellE hs 3 _ rfl;have z4:wx.cell? ⟨x',l*40+key*5+4,none⟩=some (.bool s4):=hone.cellE hs 4 _ rfl;have k0:wx.cell? ⟨p,0,none⟩=some (.int .i64 key):=kx.cell 0;have k1:wx.cell? ⟨p,1,none⟩=some (.int .i64 e1):=kx.cell 1;have k2:wx.cell? ⟨p,2,none⟩=some (.int .i64 e2):=kx.cell 2;have k3:wx.cell? ⟨p,3,none⟩=some (.int .i64 e3):=kx.cell 3;have k4:wx.cell? ⟨p,4,none⟩=some (.bool e4):=kx.cell 4;dsimp only at b0 HF;have a0:=λn:Ext wx=>n.cell k0
 have a1:=λn:Ext wx=>n.cell k1
 have a2:=λn:Ext wx=>n.cell k2
 have a3:=λn:Ext wx=>n.cell k3
 have a4:=λn:Ext wx=>n.cell k4
 have a5:=λn:Ext wx=>n.cell z0
 have a6:=λn:Ext wx=>n.cell z1
 have a7:=λn:Ext wx=>n.cell z2
 have a8:=λn:Ext wx=>n.cell z3
 have a9:=λn:Ext wx=>n.cell z4
 have a10:=λn:Ext wx=>n.cell b0
 have a11:=λn:Ext wx=>n.cell c1
 have a12:=λn:Ext wx=>n.cell c2
 have a13:=λn:Ext wx=>n.cell y1
 have a14:=λn:Ext wx=>n.cell y2
 have hw':(who:Int)<(m:Int):=by omega
 have hl':(l:Int)<(n:Int):=by omega
 have hk':(key:Int)<8:=by omega
 obtain⟨HNW,HH,HWX,HP,HBX,HX,HY,HQ,HS,HKX⟩:=uQ (λW=>zTx ⟨key,e1,e2,e3,e4⟩ ⟨s0,s1,s2,s3,s4⟩ W) h hwx hp hbx hx hy hq hs kx;clear h hX hx hy hq hs hx' hy' hq' hone hlen hwx hp hbx kx z0 z1 z2 z3 z4 k0 k1 k2 k3 k4 b0 c1 c2 y1 y2;unfold zCe;dsimp only;go_enter func74,ntmps74;go_upto_region 1 with fail;rw[<-HWX.s,<-HP.s];cases b
 case' false=>
  refine dR (by kernel_rfl) (by kernel_rfl) ?_
  repeat(go_big_quiet_step (fail))
  refine qF ?_;rintro _ ⟨nq,rfl⟩;rw[show(!false||zDe ⟨key,e1,e2,e3,e4⟩ ⟨s0,s1,s2,s3,s4⟩)=true from rfl,if_pos rfl]at HF
 case' true=>
  generalize zDe ⟨key,e1,e2,e3,e4⟩ ⟨s0,s1,s2,s3,s4⟩=nb at HNW HF;refine dR (by kernel_rfl) (by kernel_rfl) ?_
  repeat(go_big_quiet_step ((go_at_call 100;exact fT (HNW.s _))))
  refine qF ?_;rintro _ ⟨nq,rfl⟩;cases nb
  case' true=>rw[show(!true||true)=true from rfl,if_pos rfl]at HF
 case' true.h.refine_2.false=>
  rw[show(!true||false)=false from rfl,if_neg (by simp)]at HF;have HW:=uT (HBX.s.trans (nq.h.mono HBX.s.size));go_wp2_with fail
  go_end0
  rw[HF.s];exact⟨rfl,by rw[zJq Q who q' HQ.s];exact HH.s.calm HW.s,Only.of_below HW.s λx h1 h2=>by omega⟩
 all_goals
  have a0:=a0 nq;have a1:=a1 nq;have a2:=a2 nq;have a3:=a3 nq;have a4:=a4 nq;have a5:=a5 nq;have a6:=a6 nq;have a7:=a7 nq;have a8:=a8 nq;have a9:=a9 nq;have a10:=a10 nq;have a11:=a11 nq;have a12:=a12 nq;have a13:=a13 nq;have a14:=a14 nq;have hnq:=nq.h;have hpW:=jQ HKX.s.lt hnq.size;obtain⟨HH2,HB2⟩:=uI (HH.s.calm (HBX.s.trans (hnq.mono HBX.s.size))) (HBX.s.trans (hnq.mono HBX.s.size));have kW:=HKX.s.below hnq HKX.s.lt;generalize nq.W=W at*;have hone:=HH2.s.st who x' y' q' HX.s HY.s HQ.s;have hpx:x'≠p:=hone.ents.ne_ kW (by decide);have hpx':p≠x':=λe=>hpx e.symm
  have f0:=hone.ents.frozen;have g0:=hone.bits.frozen;obtain⟨HON,HKW⟩:=uI hone kW;clear hone kW HNW;go_upto_region 2 with fail;refine bV 13 (by kernel_rfl) (by kernel_rfl) ?_;simp only[qX,jE,qZ,jL]
  repeat(go_big_quiet_step (fail))
  refine qF ?_;rintro _ ⟨na,rfl⟩;go_upto_region 3 with fail;obtain⟨wd,hwd⟩:=kB (W.drewN na);have hbd:uR W wd:=by rw[hwd];exact zYe (qC _ _) _
  rw[<-hwd];obtain⟨w5,hw5⟩:=kB (zLv wd x' (l*40+key*5) ⟨key,e1,e2,e3,e4⟩);have hw6:((((wd.setCell ⟨x',l*40+key*5,none⟩ (.int .i64 key)).setCell ⟨x',l*40+key*5+1,none⟩ (.int .i64 e1)).setCell ⟨x',l*40+key*5+2,none⟩ (.int .i64 e2)).setCell ⟨x',l*40+key*5+3,none⟩ (.int .i64 e3)).setCell ⟨x',l*40+key*5+4,none⟩ (.bool e4)=w5:=hw5.symm;rw[hw6];clear hw6;have hAd:=HH2.s.calm hbd;have hod:=HON.s.calm hbd;have hO5:Only (λk=>k=x') wd w5:=by rw[hw5];exact zHy _ _ _ _
  have h5:=hod.putE HS.s ⟨key,e1,e2,e3,e4⟩;rw[<-hw5]at h5;have hA5:=hAd.put HX.s HY.s HQ.s h5 (hO5.mono λ_ _ e=>Or.inl e);have k5:=(HKW.s.below hbd HKW.s.lt).only hO5 hpx';have k50:w5.cell? ⟨p,0,none⟩=some (.int .i64 key):=k5.cell 0;have q5:∀bb:Bool,(q'.set (l*8+key) ((⟨key,e1,e2,e3,e4⟩:Ent),bb))[l*8+key]? =some ((⟨key,e1,e2,e3,e4⟩:Ent),bb):=λ_=>jM (qK.1 HS.s).1
  have h6:=h5.putB (q5 _) true;rw[List.set_set]at h6;have p2:=hA5.c2;obtain⟨x2,y2',q2,j1,j2,j3,j4,j5,_⟩:=hA5.cs hw;obtain rfl:y2'=y':=by have:=HY.s;rw[j2]at this;cases this;rfl
  have pb:=h5.cellB (q5 _);have pf:=h5.bits.frozen (l*8+key);obtain⟨HO5,H6,HAD,HBD⟩:=uK hO5 h6 hAd (HB2.s.trans (hbd.mono HB2.s.size));clear hw5 hO5 h5 hA5 h6 q5 j1 j2 j3 j4 k5 a0 a1 a2 a3 a4 a5 a6 a7 a8 a9 a10 a11 a12 a13 a14 f0 g0 hAd hod hbd hwd;refine bV 12 (by kernel_rfl) (by kernel_rfl) ?_;simp only[qX,jE,qZ,jL]
  repeat(go_big_quiet_step (fail))
  refine qF ?_;rintro _ ⟨nb,rfl⟩;go_wp2_with fail
  go_end0
  have h6':=H6.s;have hO6:Only (λk=>k=y2') w5 (w5.setCell ⟨y2',l*8+key,none⟩ (.bool true)):=bJ (Only.refl _ _) _ _;have hOO:Only (λk=>k=x'\/k=y2') wd (w5.setCell ⟨y2',l*8+key,none⟩ (.bool true)):=(HO5.s.mono λ_ _ e=>Or.inl e).trans hO6 (λ_ _ e=>Or.inr e);have hD:Below (w5.setCell ⟨y2',l*8+key,none⟩ (.bool true)).heap.size (w5.setCell ⟨y2',l*8+key,none⟩ (.bool true)) ((w5.drewN nb).setCell ⟨y2',l*8+key,none⟩ (.bool true)):=zYe (qC _ _) nb;refine⟨rfl,?_,((Only.of_below HBD.s λx h1 h2=>by omega).trans hOO λ_ _ e=>e).calm hD⟩;rw[HF.s];exact(HAD.s.put HX.s HY.s HQ.s h6' hOO).calm hD
structure EntOk(T:Int)(e:Ent):Prop where
 value:0<=e.value/\e.value<=255
 time:0<=e.time/\e.time<=T
 who:0<=e.who/\e.who<=7
 gone:e.gone=true->e.value=0
theorem EntOk.mono{T T':Int}{e:Ent}(h:EntOk T e)(hT:T<=T'):EntOk T' e:=⟨h.value,⟨h.time.1,by have:=h.time.2;omega⟩,h.who,h.gone⟩
def Keyed(T:Int)(k0:Nat)(r:List Slot):Prop:=∀(i:Nat) (s:Slot),r[i]? =some s->s.2=true->s.1.key=((k0+i:Nat):Int)/\EntOk T s.1
theorem Keyed.tail{T:Int}{k0:Nat}{s:Slot}{r:List Slot}(h:Keyed T k0 (s::r)):Keyed T (k0+1) r:=λi s' hs h2=>by have:=h (i+1) s' (by simpa using hs) h2;rw[show k0+(i+1)=k0+1+i by omega]at this;exact this
theorem zCg(s:Slot)(r:List Slot):lsS (s::r)=if s.2 then s.1::lsS r else lsS r:=by unfold lsS;rw[List.filterMap_cons];cases s.2<;>simp
theorem zKp{T:Int}{r:List Slot}{k0:Nat}(h:Keyed T k0 r){e:Ent}(he:e∈lsS r):((k0:Int)<=e.key/\e.key<((k0+r.length:Nat):Int))/\EntOk T e:=by
 unfold lsS at he;obtain⟨s,hs,h2⟩:=List.mem_filterMap.1 he;obtain⟨i,hi⟩:=jY.1 hs;have hil:=(qK.1 hi).1;cases hb:s.2 with
 |false=>simp[hb]at h2
 |true=>simp[hb]at h2;subst h2;obtain⟨h1,h3⟩:=h i s hi hb;exact⟨by omega,h3⟩
theorem zUq{T:Int}:∀(r:List Slot) (k0:Nat),Keyed T k0 r->zBa (lsS r)
 |[],_,_=>List.Pairwise.nil
 |s::r,k0,h=>by
  rw[zCg];have ih:=zUq r (k0+1) h.tail
  split
  ·rename_i h2;refine List.pairwise_cons.2 ⟨λz hz=> ?_,ih⟩;have h1:=(h 0 s rfl h2).1;have h3:=(zKp h.tail hz).1;omega
  ·exact ih
theorem yHi(L:List Ent)(e:Ent)(h:∀z∈L,e.key<z.key):gI L e=e::L:=by
 cases L with
 |nil=>rfl
 |cons x L=>have:=h x (by simp);unfold gI;rw[if_neg (by omega),if_pos this]
def upd(r:List Slot)(i:Nat)(e:Ent):List Slot:=
 match r[i]? with
 |some (x,b)=>if !b||zDe e x then r.set i (e,true)else r
 |none=>r
theorem upd_len(r:List Slot)(i:Nat)(e:Ent):(upd r i e).length=r.length:=by
 unfold upd
 split
 ·split
  ·simp
  ·rfl
 ·rfl
theorem upd_get(r:List Slot)(i:Nat)(e:Ent)(j:Nat)(s:Slot)(h:(upd r i e)[j]? =some s):r[j]? =some s\/(j=i/\s=(e,true)):=by
 unfold upd at h
 split at h
 ·split at h
  ·rw[List.getElem?_set]at h
   split at h
   ·rename_i h1
    split at h
    ·right;cases h;exact⟨h1.symm,rfl⟩
    ·cases h
   ·exact .inl h
  ·exact .inl h
 ·exact .inl h
theorem Keyed.upd{T:Int}{k0:Nat}{r:List Slot}(h:Keyed T k0 r){i:Nat}{e:Ent}(hk:e.key=((k0+i:Nat):Int))(he:EntOk T e):Keyed T k0 (upd r i e):=λj s hs h2=>by
 rcases upd_get r i e j s hs with h1|⟨h1,h3⟩
 ·exact h j s h1 h2
 ·subst h1 h3;exact⟨hk,he⟩
theorem ins_ls{T:Int}:∀(r:List Slot) (k0 i:Nat) (e:Ent),Keyed T k0 r->e.key=((k0+i:Nat):Int)->i<r.length->gI (lsS r) e=lsS (upd r i e)
 |[],k0,i,e,_,_,h=>by simp at h
 |s::r,k0,0,e,hk,he,_=>by
  obtain⟨x,b⟩:=s;have hfr:∀z∈lsS r,e.key<z.key:=λz hz=>by have:=(zKp hk.tail hz).1;omega
  unfold upd;simp only[List.getElem?_cons_zero];cases b with
  |false=>simp only[Bool.not_false,Bool.true_or,if_true,List.set_cons_zero];rw[zCg,zCg];simp only[Bool.false_eq_true,if_false,if_true];exact yHi _ _ hfr
  |true=>
   have hx:=(hk 0 (x,true) rfl rfl).1;dsimp only at hx;rw[zCg];simp only[if_true,Bool.not_true,Bool.false_or,List.set_cons_zero];unfold gI;rw[if_neg (by omega),if_neg (by omega)]
   split
   ·rw[zCg];simp
   ·rw[zCg];simp
 |s::r,k0,i+1,e,hk,he,hl=>by
  have ih:=ins_ls r (k0+1) i e hk.tail (by rw[he];congr 1;omega) (by simpa using hl);have hu:upd (s::r) (i+1) e=s::upd r i e:=by
   unfold upd;rw[jP];cases r[i]? with
   |none=>rfl
   |some p=>
    obtain⟨x,b⟩:=p;simp only[List.set_cons_succ]
    split<;>rfl
  rw[hu,zCg,zCg]
  split
  ·rename_i h2;have hx:=(hk 0 s rfl h2).1;rw[<-ih]
   conv=>lhs;unfold gI
   rw[if_pos (by omega)]
  ·exact ih
theorem yCg{T:Int}:∀(es:List Ent) (r:List Slot),Keyed T 0 r->(∀e∈es,(0<=e.key/\e.key<r.length)/\EntOk T e)-> es.foldl gI (lsS r)=lsS (es.foldl (λr e=>upd r e.key.toNat e) r)/\Keyed T 0 (es.foldl (λr e=>upd r e.key.toNat e) r)/\(es.foldl (λr e=>upd r e.key.toNat e) r).length=r.length
 |[],r,h,_=>⟨rfl,h,rfl⟩
 |e::es,r,h,he=>by
  obtain⟨h1,h2⟩:=he e (by simp);have hk:e.key=((0+e.key.toNat:Nat):Int):=by omega
  have hi:=ins_ls r 0 e.key.toNat e h hk (by omega);have hl:=upd_len r e.key.toNat e;have hK:=h.upd hk h2;have ih:=yCg es (upd r e.key.toNat e) hK (λx hx=>by rw[hl];exact he x (by simp[hx]));simp only[List.foldl_cons];rw[hi];exact⟨ih.1,ih.2.1,by rw[ih.2.2,hl]⟩
theorem zNa:∀(l:List Ent) (p:Option Int),(∀x∈l,gJ x=true)->zBa l->(∀q,p=some q->∀x∈l,q<x.key)->dO l p=true
 |[],_,_,_,_=>rfl
 |e::l,p,h1,h2,h3=>by
  have hs:=List.pairwise_cons.1 h2;unfold dO;rw[h1 e (by simp),zNa l (some e.key) (λx hx=>h1 x (by simp[hx])) hs.2 λq hq x hx=>by cases hq;exact hs.1 x hx];cases p with
  |none=>rfl
  |some q=>have:=h3 q rfl e (by simp);simp[above];exact this
theorem EntOk.one{T:Int}{e:Ent}(h:EntOk T e)(hT:T<=1048576)(hk:0<=e.key/\e.key<=1048576):gJ e=true:=by
 obtain⟨h1,h2,h3,h4⟩:=h;unfold gJ inP;simp;refine⟨⟨⟨⟨hk,by omega⟩,by omega⟩,by omega⟩,?_⟩;cases hg:e.gone with
 |false=>exact .inl rfl
 |true=>right;have:=h4 hg;omega
theorem may_ls{T:Int}{r:List Slot}(h:Keyed T 0 r)(hT:T<=1048576)(hl:r.length<=8):bU (lsS r)=true:=by have h2:=zSv r;unfold bU;rw[zNa (lsS r) none (λx hx=>(zKp h hx).2.one hT (by have:=(zKp h hx).1;omega)) (zUq r 0 h) λq hq=>by cases hq];simp;omega
theorem zJf{T:Int}{a:List Slot}{b:List Ent}(ha:Keyed T 0 a)(hT:T<=1048576)(la:a.length=8)(hb:bU b=true)(hbe:∀e∈b,e.key<8/\EntOk T e):(dY (lsS a) b).1=lsS (b.foldl (λr e=>upd r e.key.toNat e) a)/\Keyed T 0 (b.foldl (λr e=>upd r e.key.toNat e) a)/\(b.foldl (λr e=>upd r e.key.toNat e) a).length=8:=by have hf:=gX hb;obtain⟨h1,h2,h3⟩:=yCg b a ha (λe he=>⟨⟨(hf.2.1 e he).1,by rw[la];exact(hbe e he).1⟩,(hbe e he).2⟩);refine⟨?_,h2,by rw[h3,la]⟩;unfold dY;rw[may_ls ha hT (by omega),hb];rw[h1];have:=zSv (b.foldl (λr e=>upd r e.key.toNat e) a);rw[h3,la]at this;simp only[Bool.and_self,if_true];rw[if_neg (by omega)]
theorem zTc:∀(r:List Slot) (t:Int),zDp (lsS r) t=zCm r t
 |[],t=>rfl
 |s::r,t=>by
  rw[zCg];unfold zCm zDp;rw[List.foldl_cons];cases hb:s.2 with
  |false=>simp only[Bool.false_and,Bool.false_eq_true,if_false];exact zTc r t
  |true=>
   simp only[Bool.true_and,if_true,List.foldl_cons,decide_eq_true_eq];have:=zTc r (if t<s.1.time then s.1.time else t);unfold zCm zDp at this;rw[<-this]
   congr 1
   rw[Int.max_def]
   split<;>split<;>omega
theorem yCl{T:Int}:∀(r:List Slot) (t:Int),(∀s∈r,s.2=true->s.1.time<=T)->t<=T->t<=zCm r t/\zCm r t<=T/\∀s∈r,s.2=true->s.1.time<=zCm r t
 |[],t,_,h=>⟨Int.le_refl _,h,by simp⟩
 |s::r,t,h,ht=>by
  unfold zCm;rw[List.foldl_cons];have hs:=h s (by simp);have ih:=yCl r (if s.2&&decide (t<s.1.time)then s.1.time else t) (λx hx=>h x (by simp[hx])) (by
   split
   ·rename_i h1;simp at h1;exact hs h1.1
   ·exact ht)
  unfold zCm at ih;refine⟨?_,ih.2.1,λx hx hx2=> ?_⟩
  ·refine Int.le_trans ?_ ih.1
   split
   ·rename_i h1;simp at h1;omega
   ·exact Int.le_refl _
  ·rcases jD.1 hx with rfl|hx
   ·refine Int.le_trans ?_ ih.1;rw[hx2];simp only[Bool.true_and,decide_eq_true_eq]
    split<;>omega
   ·exact ih.2.2 x hx hx2
def slotF:Option Slot->Ent×Bool
 |some (e,true)=>(e,!e.gone)
 |_=>(Ent.zero,false)
theorem yCd{T:Int}:∀(r:List Slot) (k0 i:Nat),Keyed T k0 r->i<r.length->zAn (lsS r) ((k0+i:Nat):Int)=slotF r[i]?
 |[],_,_,_,h=>by simp at h
 |s::r,k0,0,hk,_=>by
  obtain⟨x,b⟩:=s;rw[zCg];cases b with
  |true=>have hx:=(hk 0 (x,true) rfl rfl).1;simp only[if_true,List.getElem?_cons_zero];unfold zAn;rw[if_pos hx];rfl
  |false=>
   simp only[Bool.false_eq_true,if_false,List.getElem?_cons_zero];have hfr:∀z∈lsS r,((k0+0:Nat):Int)<z.key:=λz hz=>by have:=(zKp hk.tail hz).1;omega
   generalize lsS r=L at hfr
   induction L with
   |nil=>rfl
   |cons z L ih=>have:=hfr z (by simp);unfold zAn;rw[if_neg (by omega)];exact ih λy hy=>hfr y (by simp[hy])
 |s::r,k0,i+1,hk,hl=>by
  have ih:=yCd r (k0+1) i hk.tail (by simpa using hl);rw[show k0+1+i=k0+(i+1)by omega]at ih;rw[jP,zCg]
  split
  ·rename_i h2;have hx:=(hk 0 s rfl h2).1;unfold zAn;rw[if_neg (by omega)];exact ih
  ·exact ih
def GoodS(T:Int)(q:List Slot):Prop:=∀(p:Nat) (s:Slot),q[p]? =some s->s.2=true->s.1.key=((p%8:Nat):Int)/\EntOk T s.1
theorem GoodS.mono{T T':Int}{q:List Slot}(h:GoodS T q)(hT:T<=T'):GoodS T' q:=λp s hs h2=>⟨(h p s hs h2).1,(h p s hs h2).2.mono hT⟩
theorem GoodS.row{T:Int}{q:List Slot}(h:GoodS T q)(l:Nat):Keyed T 0 (fS q l):=λi s hs h2=>by
 have hi:i<8:=by have h1:=(qK.1 hs).1;unfold fS at h1;have:=List.length_take_le 8 (q.drop (l*8));omega
 rw[zDo q l i hi]at hs;have:=h _ s hs h2;rw[show(l*8+i)%8=0+i by omega]at this;exact this
theorem yFn(q:List Slot)(l:Nat)(e:Ent)(hk:0<=e.key/\e.key<8):fS (zFa q l e) l=upd (fS q l) e.key.toNat e/\(∀l',l'≠l->fS (zFa q l e) l'=fS q l')/\(zFa q l e).length=q.length:=by
 have hk8:e.key.toNat<8:=by omega
 obtain⟨k,hkk⟩:∃k,e.key.toNat=k:=⟨_,rfl⟩;rw[hkk]at hk8⊢;have hset:∀v:Slot,fS (q.set (l*8+k) v) l=(fS q l).set k v:=λv=>by unfold fS;rw[List.drop_set,if_neg (by omega),show l*8+k-l*8=k by omega,List.take_set]
 have hne:∀(v:Slot) l',l'≠l->fS (q.set (l*8+k) v) l'=fS q l':=λv l' hl=>by
  apply List.ext_getElem?;intro i;rcases Nat.lt_or_ge i 8 with h8|h8
  ·rw[zDo _ _ _ h8,zDo _ _ _ h8,jX (by omega)]
  ·unfold fS;rw[qU (by have:=List.length_take_le 8 ((q.set (l*8+k) v).drop (l'*8));omega),qU (by have:=List.length_take_le 8 (q.drop (l'*8));omega)]
 unfold zFa upd;rw[hkk,zDo q l k hk8];cases q[l*8+k]? with
 |none=>exact⟨rfl,λ_ _=>rfl,rfl⟩
 |some s=>
  obtain⟨x,b⟩:=s;dsimp only
  split
  ·exact⟨hset _,λl' hl=>hne _ l' hl,by simp⟩
  ·exact⟨rfl,λ_ _=>rfl,rfl⟩
def zGn(q:List Slot)(l:Nat)(es:List Ent):List Slot:=es.foldl (λq e=>zFa q l e) q
theorem zRu(l:Nat):∀(es:List Ent) (q:List Slot),(∀e∈es,0<=e.key/\e.key<8)->fS (zGn q l es) l=es.foldl (λr e=>upd r e.key.toNat e) (fS q l)/\(∀l',l'≠l->fS (zGn q l es) l'=fS q l')/\(zGn q l es).length=q.length
 |[],q,_=>⟨rfl,λ_ _=>rfl,rfl⟩
 |e::es,q,h=>by have h1:=yFn q l e (h e (by simp));have h2:=zRu l es (zFa q l e) (λx hx=>h x (by simp[hx]));unfold zGn at h2⊢;simp only[List.foldl_cons];rw[<-h1.1];exact⟨h2.1,λl' hl=>(h2.2.1 l' hl).trans (h1.2.1 l' hl),by rw[h2.2.2,h1.2.2]⟩
theorem yAa{T:Int}{q:List Slot}(n:Nat)(hl:q.length=n*8)(h:∀l,l<n->Keyed T 0 (fS q l)):GoodS T q:=λp s hs h2=>by
 have hp:=(qK.1 hs).1;have e:p=p/8*8+p%8:=by omega
 have h8:p%8<8:=Nat.mod_lt _ (by omega);rw[e,<-zDo q (p/8) (p%8) h8]at hs;have:=h (p/8) (by omega) (p%8) s hs h2;rw[Nat.zero_add]at this;exact this
def zHe(n:Nat)(q:List Slot):List (List Ent):=(List.range n).map λl=>lsS (fS q l)
theorem zMr(n:Nat)(q:List Slot)(l:Nat)(h:l<n):(zHe n q)[l]? =some (lsS (fS q l)):=by simp[zHe,h]
theorem yGz(n:Nat)(q q':List Slot)(l:Nat)(h:∀l',l'≠l->fS q' l'=fS q l')(hl:l<n):zHe n q'=(zHe n q).set l (lsS (fS q' l)):=by
 apply List.ext_getElem?;intro i;rw[List.getElem?_set];by_cases hi:i<n
 ·rw[zMr n q' i hi]
  split
  ·rename_i h1;subst h1;rw[if_pos (by simp[zHe];exact hi)]
  ·rename_i h1;rw[zMr n q i hi,h i λe=>h1 e.symm]
 ·rw[qU (by simp[zHe];omega)]
  split
  ·omega
  ·rw[qU (by simp[zHe];omega)]
def plQ(n:Nat)(Q:List (List Slot)):List (List (List Ent)):=Q.map (zHe n)
theorem zQf{n:Nat}{Q:List (List Slot)}{j l:Nat}{q:List Slot}(hq:Q[j]? =some q)(hl:l<n):rowP (plQ n Q) j l=lsS (fS q l):=by unfold rowP plQ;rw[qV,hq];simp[zMr n q l hl]
theorem setP_plQ{n:Nat}{Q:List (List Slot)}{j l:Nat}{q q':List Slot}(hq:Q[j]? =some q)(hl:l<n)(h:∀l',l'≠l->fS q' l'=fS q l'):plQ n (Q.set j q')=setP (plQ n Q) j l (lsS (fS q' l)):=by unfold setP plQ;rw[List.map_set,yGz n q q' l h hl,qV,hq];rfl
structure Goods(T:Int)(m n:Nat)(Q:List (List Slot)):Prop where
 len:Q.length=m
 each:∀q∈Q,q.length=n*8/\GoodS T q
theorem Goods.mono{T T':Int}{m n:Nat}{Q:List (List Slot)}(h:Goods T m n Q)(hT:T<=T'):Goods T' m n Q:=⟨h.len,λq hq=>⟨(h.each q hq).1,(h.each q hq).2.mono hT⟩⟩
theorem Goods.set{T:Int}{m n:Nat}{Q:List (List Slot)}(h:Goods T m n Q)(j:Nat){q:List Slot}(hl:q.length=n*8)(hg:GoodS T q):Goods T m n (Q.set j q):=
 ⟨by simp[h.len],λx hx=>by
  rcases jO hx with h1|h1
  ·exact h.each x h1
  ·rw[h1];exact⟨hl,hg⟩⟩
theorem zVk{T:Int}{m n:Nat}{Q:List (List Slot)}(h:Goods T m n Q)(hT:T<=1048576){dst l:Nat}{q:List Slot}{es:List Ent}(hq:Q[dst]? =some q)(hl:l<n)(hes:bU es=true)(hee:∀e∈es,e.key<8/\EntOk T e):Goods T m n (Q.set dst (zGn q l es))/\plQ n (Q.set dst (zGn q l es))=setP (plQ n Q) dst l (dY (rowP (plQ n Q) dst l) es).1:=by
 have hqm:=h.each q (qB hq);have hf:=gX hes;obtain⟨h1,h2,h3⟩:=zRu l es q (λe he=>⟨(hf.2.1 e he).1,(hee e he).1⟩);have hrl:=zGx q l n hqm.1 hl;obtain⟨m1,m2,m3⟩:=zJf (hqm.2.row l) hT hrl hes hee;rw[<-h1]at m1 m2 m3;refine⟨h.set dst (by rw[h3,hqm.1]) (yAa n (by rw[h3,hqm.1]) λl' hl'=> ?_),?_⟩
 ·by_cases e:l'=l
  ·rw[e];exact m2
  ·rw[h2 l' e];exact hqm.2.row l'
 ·rw[setP_plQ hq hl h2,zQf hq hl,m1]
theorem put_row{T:Int}{m n:Nat}{Q:List (List Slot)}(h:Goods T m n Q)(hT:T<=1000000)(hT0:0<=T){who l key:Nat}{value:Int}{gone:Bool}{q:List Slot}(hq:Q[who]? =some q)(hm:m<=8)(hl:l<n)(hk:key<8)(hv:0<=value/\value<=255)(hg:gone=true->value=0):Goods (T+1) m n (Q.set who (setS q l who key value gone))/\plQ n (Q.set who (setS q l who key value gone))=setP (plQ n Q) who l (zFm (rowP (plQ n Q) who l) who key value gone):=by
 have hwm:who<m:=by rw[<-h.len];exact(qK.1 hq).1
 have hqm:=h.each q (qB hq);have hK:=hqm.2.row l;have h8:=zGx q l n hqm.1 hl;have htl:=yCl (T:=T) (fS q l) 0 (λs hs h2=>by obtain⟨i,hi⟩:=jY.1 hs;exact(hK i s hi h2).2.time.2) hT0;obtain⟨e,he⟩:∃e:Ent,e=⟨key,value,zCm (fS q l) 0+1,who,gone⟩:=⟨_,rfl⟩;have heok:EntOk (T+1) e:=by rw[he];exact⟨hv,by dsimp only;omega,by dsimp only;omega,hg⟩
 have hek:e.key=key:=by rw[he]
 have hs:q[l*8+key]? =some (q[l*8+key]'(by omega)):=qI _;generalize q[l*8+key]'(by omega)=s at hs;obtain⟨x,b⟩:=s;have hset:setS q l who key value gone=zGn q l [e]:=by
  unfold zGn setS zFa;simp only[List.foldl_cons,List.foldl_nil,qR,hek,hs];rw[<-he];have:(!b||zDe e x)=true:=by
   cases b with
   |false=>rfl
   |true=>
    have hrs:(fS q l)[key]? =some (x,true):=by rw[zDo q l key hk];exact hs
    have h1:=htl.2.2 (x,true) (qB hrs) rfl;have h2:e.time=zCm (fS q l) 0+1:=by rw[he]
    dsimp only at h1;rw[zUd,if_pos (by omega)];simp;omega
  rw[this,if_pos rfl]
 have hmay:bU [e]=true:=by have h1:=heok.one (by omega) (by omega);unfold bU;rw[zNa [e] none (λx hx=>by rw[jJ]at hx;rw[hx];exact h1) (List.pairwise_singleton _ _) λq hq=>by cases hq];rfl
 have hr:=zVk (h.mono (T':=T+1) (by omega)) (by omega) hq hl hmay (λz hz=>by rw[jJ]at hz;rw[hz];exact⟨by omega,heok⟩);rw[hset];refine⟨hr.1,?_⟩;rw[hr.2,zQf hq hl];unfold zFm;rw[zTc,<-he]
def XY(X Y:List Nat)(k:Nat):Prop:=k∈X\/k∈Y
theorem XY.ge{w:World}{base sb hb ib n c m hc ic:Nat}{A:Option Addr}{X Y:List Nat}{Q:List (List Slot)}(h:ShvAt w base sb hb ib n c m hc ic A X Y Q){k:Nat}(hk:XY X Y k):base<=k/\k<w.heap.size/\((∃cs,Blk w k 126 cs)\/∃cs,Blk w k 118 cs):=by
 rcases hk with hk|hk
 ·obtain⟨j,hj⟩:=jY.1 hk;obtain⟨x,y,q,hx,hy,hq,_,_,ho⟩:=h.cs (j:=j) (by rw[<-h.xm];exact(qK.1 hj).1);obtain rfl:x=k:=by rw[hj]at hx;cases hx;rfl
  exact⟨ho.lowx,ho.ents.lt,.inl ⟨_,ho.ents⟩⟩
 ·obtain⟨j,hj⟩:=jY.1 hk;obtain⟨x,y,q,hx,hy,hq,_,_,ho⟩:=h.cs (j:=j) (by rw[<-h.ym];exact(qK.1 hj).1);obtain rfl:y=k:=by rw[hj]at hy;cases hy;rfl
  exact⟨ho.lowy,ho.bits.lt,.inr ⟨_,ho.bits⟩⟩
structure TabOwn(w:World)(base:Nat)(t:TabR):Prop where
 row:w.ownsRow base 103 1 t.val t.rs.length (t.rs.map EnR.val)
 rows:∀r∈t.rs,w.ownsRow base 125 5 r.val r.es.length (r.es.flatMap bD)
section
variable {w w':World}{base base':Nat}{t:TabR}
theorem TabOwn.calm(h:TabOwn w base t)(hb:uR w w'):TabOwn w' base t:=⟨bI h.row hb,λr hr=>bI (h.rows r hr) hb⟩
theorem TabOwn.mono(h:TabOwn w base t)(hb:base'<=base):TabOwn w base' t:=⟨dU h.row hb,λr hr=>dU (h.rows r hr) hb⟩
theorem TabOwn.own(h:TabOwn w base t){e size k:Nat}{v:Value}{xs:List Value}(hv:w.ownsRow base' e size v k xs)(he:103≠e/\125≠e)(hg:w.grownBy w' v.ownBlock):TabOwn w' base t:=
 ⟨fP h.row hv he.1 hg,λr hr=>fP (h.rows r hr) hv he.2 hg⟩
theorem TabOwn.rd(h:TabOwn w base t):TabRd w w.heap.size t:=⟨Reads.of_own h.row,λr hr=>Reads.of_own (h.rows r hr)⟩
end
def All3(w:World)(base:Nat)(v:Value)(ts:List TabR):Prop:=w.ownsRow base 78 1 v ts.length (ts.map TabR.val)/\∀t∈ts,TabOwn w base t
theorem All3.calm{w w':World}{base:Nat}{v:Value}{ts:List TabR}(h:All3 w base v ts)(hb:uR w w'):All3 w' base v ts:=⟨bI h.1 hb,λt ht=>(h.2 t ht).calm hb⟩
theorem All3.st3{w:World}{base:Nat}{v:Value}{ts:List TabR}(h:All3 w base v ts):St3 w w.heap.size v (ts.map λt=>t.rs.map EnR.es):=by obtain⟨A,c,rfl,hc⟩:=bE h.1;exact⟨A,c,ts,rfl,Reads.of_own h.1,λt ht=>(h.2 t ht).rd,rfl⟩
theorem zTl(v v':Value)(P:List (List (List Ent)))(B:Nat)(w:World)(hv:St3 w B v P)(hv':St3 w B v' P)(hB:B<=w.heap.size)(hP:P.length<=1000)(hP2:∀p∈P,p.length<=1000/\∀r∈p,r.length<=1000):Calls prog 13 #[v,v'] w λe w'=>e= .returned (.bool true)/\uR w w':=by
 obtain⟨A,c,ts,rfl,hr,ht,hp⟩:=hv;obtain⟨A',c',ts',rfl,hr',ht',hp'⟩:=hv';obtain⟨m,hm⟩:=kB P.length;have hl:ts.length=m:=by rw[hm,<-hp,qQ]
 have hl':ts'.length=m:=by rw[hm,<-hp',qQ]
 have hm1:m<=1000:=by omega
 rw[hl]at hr⊢;rw[hl']at hr'⊢;obtain⟨HR,HR',HT,HT',HP,HP',HP2⟩:=uN (hr.more hB) (hr'.more hB) (λt h=>(ht t h).more hB) (λt h=>(ht' t h).more hB) hp hp' hP2;clear hr hr' ht ht' hp hp' hP2 hl hl' hm hP;go_enter func13,ntmps13;go_wp2_with fail
 go_loopw [5] (λi wr=>∃k:Nat,k<=m/\i= .int .i64 k/\uR w wr) (λi _=>m-(intOf i).toNat)
 case atStart=>exact⟨0,qL _,rfl,qC _ _⟩
 case round=>
  obtain⟨k,hk,rfl,hz⟩:=hrel;by_cases hlt:k<m
  ·obtain⟨b,o,t,rfl,hbl,htk,hc⟩:=zCv TabR.val (HR.s.below hz) hlt;obtain⟨b',o',t',rfl,hbl',htk',hc'⟩:=zCv TabR.val (HR'.s.below hz) hlt;have hes:t.rs.map EnR.es=t'.rs.map EnR.es:=by
    have h1:(ts.map λt=>t.rs.map EnR.es)[k]? =some (t.rs.map EnR.es):=by simp[htk]
    have h2:(ts'.map λt=>t.rs.map EnR.es)[k]? =some (t'.rs.map EnR.es):=by simp[htk']
    rw[HP.s]at h1;rw[HP'.s,h1]at h2;injection h2
   have hpm:t.rs.map EnR.es∈P:=by rw[<-HP.s];exact jC.2 ⟨t,qB htk,rfl⟩
   have hb2:=HP2.s _ hpm;have hrt:=HT.s t (qB htk);have hrt':=HT'.s t' (qB htk');obtain⟨rs,tA,tc⟩:=t;obtain⟨rs',tA',tc'⟩:=t';unfold TabR.val at hc hc';unfold TabRd at hrt hrt';dsimp only at hc hc' hes hpm hb2 hrt hrt';obtain⟨n,hn⟩:=kB rs.length;have hn':rs'.length=n:=by have:=congrArg List.length hes;simp at this;omega
   have hn1:n<=1000:=by have:=hb2.1;simp at this;omega
   rw[<-hn]at hc hrt;rw[hn']at hc' hrt';obtain⟨HT1,HT2,HES,HB2⟩:=uK hrt hrt' hes hb2.2;have hkm:(k:Int)<(m:Int):=by omega
   have hnn:(n:Int)<=1000:=by omega
   clear htk htk' hes hpm hb2 hrt hrt' hn hn';have g1:∀W,uR w W->W.cell? ⟨b,o+k,none⟩=some (.slice tA n tc):=λW hW=>(hW.cell (p:=⟨b,o+k,none⟩) hbl).trans ((hz.cell (p:=⟨b,o+k,none⟩) hbl).symm.trans hc)
   have g2:∀W,uR w W->W.cell? ⟨b',o'+k,none⟩=some (.slice tA' n tc'):=λW hW=>(hW.cell (p:=⟨b',o'+k,none⟩) hbl').trans ((hz.cell (p:=⟨b',o'+k,none⟩) hbl').symm.trans hc')
   have f1:∀n_1:Ext wr,n_1.W.cell? ⟨b,o+k,none⟩=some (.slice tA n tc):=λn_1=>n_1.cell hc
   have f2:∀n_1:Ext wr,n_1.W.cell? ⟨b',o'+k,none⟩=some (.slice tA' n tc'):=λn_1=>n_1.cell hc'
   clear hc hc';go_upto_region 6 with fail;refine dR (by kernel_rfl) (by kernel_rfl) ?_
   repeat(go_big_quiet_step (fail))
   refine qF ?_;rintro W ⟨nq,hW⟩;have hW2:uR w W:=hz.trans ((hW▸nq.h:uR wr W).mono hz.size);clear hW nq f1 f2 hz
   rename World=>W0
   go_wp2_with fail
   go_loopw [6] (λi wr=>∃l:Nat,l<=n/\i= .int .i64 l/\uR w wr) (λi _=>n-(intOf i).toNat)
   case atStart=>exact⟨0,qL _,rfl,hW2⟩
   case round=>
    obtain⟨l,hl,rfl,hzl⟩:=hrel;by_cases hlt2:l<n
    ·obtain⟨d,p,r,rfl,hdl,hrl,hd⟩:=zCv EnR.val (HT1.s.1.below hzl) hlt2;obtain⟨d',p',r',rfl,hdl',hrl',hd'⟩:=zCv EnR.val (HT2.s.1.below hzl) hlt2;have her:r.es=r'.es:=by
      have h1:(rs.map EnR.es)[l]? =some r.es:=by simp[hrl]
      have h2:(rs'.map EnR.es)[l]? =some r'.es:=by simp[hrl']
      rw[HES.s,h2]at h1;injection h1 with h1;exact h1.symm
     have hr8:=HB2.s r.es (jC.2 ⟨r,qB hrl,rfl⟩);have h5:=HT1.s.2 r (qB hrl);have h5':=HT2.s.2 r' (qB hrl');obtain⟨es,rA,rc⟩:=r;obtain⟨es',rA',rc'⟩:=r';unfold EnR.val at hd hd';dsimp only at her hr8 h5 h5' hd hd';subst her;have HSE:=uT (λ(W:World) (hW:uR w W)=>zRi rA rA' es.length rc rc' es w.heap.size W rfl (by omega) (h5.below hW) (h5'.below hW));generalize es.length=q at hd hd' HSE hr8;have f1:=λn_1:Ext wr=>n_1.cell (g1 wr hzl)
     have f2:=λn_1:Ext wr=>n_1.cell (g2 wr hzl)
     have f3:=λn_1:Ext wr=>n_1.cell hd
     have f4:=λn_1:Ext wr=>n_1.cell hd'
     have hln:(l:Int)<(n:Int):=by omega
     clear hrl hrl' h5 h5' hd hd';go_upto_region 11 with fail;refine dR (by kernel_rfl) (by kernel_rfl) ?_
     repeat(go_big_quiet_step ((go_at_call 30;exact fT ((HSE.s _ (hzl.trans (Below.mono (Ext.h _) hzl.size))).mono λ_ _ ⟨he,nq,hw⟩=>⟨he,hw▸zYe (qC _ _) nq⟩))))
     refine qF ?_;rintro W ⟨nq,hW⟩;have hW2:uR w W:=hzl.trans ((hW▸nq.h:uR wr W).mono hzl.size);clear hW nq f1 f2 f3 f4;go_wp2_with fail;go_roundw
     case rel=>exact⟨l+1,by omega,by go_num,hW2⟩
     case measure=>simp[intOf];omega
    ·obtain rfl:l=n:=by omega
     go_wp2_with fail;go_roundw
     case rel=>exact⟨k+1,by omega,by go_num,hzl⟩
     case measure=>simp[intOf];omega
  ·obtain rfl:k=m:=by omega
   go_wp2_with fail;go_ret;exact⟨rfl,hz⟩
end Go.Proofs.YtbolcebmbpepdaaGreatDoor
