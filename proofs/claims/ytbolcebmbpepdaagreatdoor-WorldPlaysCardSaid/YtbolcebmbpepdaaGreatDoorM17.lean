/- Contracts. Conditions: those each states. -/
import Derived.Test.YtbolcebmbpepdaaGreatDoorM13
import Derived.Test.YtbolcebmbpepdaaGreatDoorM09
import Derived.Test.YtbolcebmbpepdaaGreatDoorM07
namespace Go.Proofs.YtbolcebmbpepdaaGreatDoor
set_option maxRecDepth 100000
set_option maxHeartbeats 8000000
set_option linter.all false
open Go.RowKit Tryz
def EntsPost(r:List Ent×Int)(e:Ending)(w w':World):Prop:=
 ∃v:Value,e= .returned (.tuple #[v,.int .i64 r.2])/\w'.ownsRow w.heap.size 125 5 v r.1.length (r.1.flatMap bD)/\uR w w'
section
open Go.RowKit Go.ChangeShapes Go.WideShapes Go.Deep
structure Envl where
 id:Int
 fr:Int
 to_:Int
 size:Int
def Envl.cells(e:Envl):List Value:=[.int .i64 e.id,.int .i64 e.fr,.int .i64 e.to_,.int .i64 e.size]
theorem Envl.cells_len(e:Envl):e.cells.length=4:=rfl
structure zCc where
 code:Int
 who:Int
 stock:Stk
 value:Int
 sent:List Envl
 frame:List Int
 report:List Int
structure Tol where
 d:zCc
 sA:Option Addr
 sn:Nat
 sc:Nat
 fA:Option Addr
 fn:Nat
 fc:Nat
 rA:Option Addr
 rn:Nat
 rc:Nat
def Tol.cells(t:Tol):List Value:=[.int .i64 t.d.code,.int .i64 t.d.who,.int .i64 t.d.stock.code,.int .i64 t.d.stock.id,.int .i64 t.d.stock.free,.int .i64 t.d.stock.held,.int .i64 t.d.stock.used,.int .i64 t.d.value,.slice t.sA t.sn t.sc,.slice t.fA t.fn t.fc,.slice t.rA t.rn t.rc]
def Tol.val(t:Tol):Value:= .agg #[.int .i64 t.d.code,.int .i64 t.d.who,.int .i64 t.d.stock.code,.int .i64 t.d.stock.id,.int .i64 t.d.stock.free,.int .i64 t.d.stock.held,.int .i64 t.d.stock.used,.int .i64 t.d.value,.slice t.sA t.sn t.sc,.slice t.fA t.fn t.fc,.slice t.rA t.rn t.rc]
theorem Tol.cells_len(t:Tol):t.cells.length=11:=rfl
structure Tol.ok(t:Tol)(w:World)(B:Nat):Prop where
 sl:t.d.sent.length=t.sn
 sc:t.sn<=t.sc
 sm:t.sc<=maxLen
 sr:Reads w B 4 t.sA t.sn (t.d.sent.flatMap Envl.cells)
 fl:t.d.frame.length=t.fn
 fc:t.fn<=t.fc
 fm:t.fc<=maxLen
 fr:Reads w B 1 t.fA t.fn (t.d.frame.map (.int .u8))
 rl:t.d.report.length=t.rn
 rc:t.rn<=t.rc
 rm:t.rc<=maxLen
 rr:Reads w B 1 t.rA t.rn (t.d.report.map (.int .i64))
theorem Tol.ok.keep{t:Tol}{w w':World}{B:Nat}(h:t.ok w B)(hk:∀p:Addr,p.block<B->w'.cell? p=w.cell? p):t.ok w' B:={h with sr:=h.sr.keep hk,fr:=h.fr.keep hk,rr:=h.rr.keep hk}
theorem Tol.ok.below{t:Tol}{w w':World}{B:Nat}(h:t.ok w B)(hb:Below B w w'):t.ok w' B:=h.keep λ_ hp=>hb.cell hp
theorem zZl(a b:Tol)(B:Nat)(w:World)(hd:a.d=b.d)(ha:a.ok w B)(hb:b.ok w B)(hB:B<=w.heap.size):Calls prog 26 #[a.val,b.val] w λe w'=>e= .returned (.bool true)/\uR w w':=by
 obtain⟨⟨code,who,⟨q0,q1,q2,q3,q4⟩,value,sent,frame,report⟩,sA,sn,sc,fA,fn,fc,rA,rn,rc⟩:=a;obtain⟨d',sA',sn',sc',fA',fn',fc',rA',rn',rc'⟩:=b;dsimp only at hd;subst hd;obtain⟨sl,sc1,sm,sr,fl,fc1,fm,fr,rl,rc1,rm,rr⟩:=ha;obtain⟨sl',sc1',sm',sr',fl',fc1',fm',fr',rl',rc1',rm',rr'⟩:=hb;dsimp only at sl sc1 sm sr fl fc1 fm fr rl rc1 rm rr sl' sc1' sm' sr' fl' fc1' fm' fr' rl' rc1' rm' rr';obtain rfl:sn=sn':=by omega
 obtain rfl:fn=fn':=by omega
 obtain rfl:rn=rn':=by omega
 unfold Tol.val;dsimp only;obtain⟨w1,hw1⟩:=kB (w.alloc (.cells #[.int .i64 code,.int .i64 who,.int .i64 q0,.int .i64 q1,.int .i64 q2,.int .i64 q3,.int .i64 q4,.int .i64 value,.slice sA sn sc,.slice fA fn fc,.slice rA rn rc] 57));obtain⟨wx,hwx⟩:=kB (w1.alloc (.cells #[.int .i64 code,.int .i64 who,.int .i64 q0,.int .i64 q1,.int .i64 q2,.int .i64 q3,.int .i64 q4,.int .i64 value,.slice sA' sn sc',.slice fA' fn fc',.slice rA' rn rc'] 57));have hs1:w1.heap.size=w.heap.size+1:=by rw[hw1];simp
 have k0:Blk wx w.heap.size 57 #[.int .i64 code,.int .i64 who,.int .i64 q0,.int .i64 q1,.int .i64 q2,.int .i64 q3,.int .i64 q4,.int .i64 value,.slice sA sn sc,.slice fA fn fc,.slice rA rn rc]:=by rw[hwx,hw1];exact(Blk.new w 57 _).alloc _
 have k1:Blk wx (w.heap.size+1) 57 #[.int .i64 code,.int .i64 who,.int .i64 q0,.int .i64 q1,.int .i64 q2,.int .i64 q3,.int .i64 q4,.int .i64 value,.slice sA' sn sc',.slice fA' fn fc',.slice rA' rn rc']:=by rw[hwx,<-hs1];exact Blk.new w1 57 _
 have hb1:=uH hw1;have hbx:uR w wx:=by rw[hwx];exact hb1.alloc hb1.size _
 have a0:∀W,uR wx W->W.cell? ⟨w.heap.size,0,none⟩=some (.int .i64 code):=λW hW=>(hW.cell (p:=⟨w.heap.size,0,none⟩) (Blk.lt k0)).trans (Blk.cell k0 0)
 have a1:∀W,uR wx W->W.cell? ⟨w.heap.size,1,none⟩=some (.int .i64 who):=λW hW=>(hW.cell (p:=⟨w.heap.size,1,none⟩) (Blk.lt k0)).trans (Blk.cell k0 1)
 have a2:∀W,uR wx W->W.cell? ⟨w.heap.size,2,none⟩=some (.int .i64 q0):=λW hW=>(hW.cell (p:=⟨w.heap.size,2,none⟩) (Blk.lt k0)).trans (Blk.cell k0 2)
 have a3:∀W,uR wx W->W.cell? ⟨w.heap.size,3,none⟩=some (.int .i64 q1):=λW hW=>(hW.cell (p:=⟨w.heap.size,3,none⟩) (Blk.lt k0)).trans (Blk.cell k0 3)
 have a4:∀W,uR wx W->W.cell? ⟨w.heap.size,4,none⟩=some (.int .i64 q2):=λW hW=>(hW.cell (p:=⟨w.heap.size,4,none⟩) (Blk.lt k0)).trans (Blk.cell k0 4)
 have a5:∀W,uR wx W->W.cell? ⟨w.heap.size,5,none⟩=some (.int .i64 q3):=λW hW=>(hW.cell (p:=⟨w.heap.size,5,none⟩) (Blk.lt k0)).trans (Blk.cell k0 5)
 have a6:∀W,uR wx W->W.cell? ⟨w.heap.size,6,none⟩=some (.int .i64 q4):=λW hW=>(hW.cell (p:=⟨w.heap.size,6,none⟩) (Blk.lt k0)).trans (Blk.cell k0 6)
 have a7:∀W,uR wx W->W.cell? ⟨w.heap.size,7,none⟩=some (.int .i64 value):=λW hW=>(hW.cell (p:=⟨w.heap.size,7,none⟩) (Blk.lt k0)).trans (Blk.cell k0 7)
 have a8:∀W,uR wx W->W.cell? ⟨w.heap.size,8,none⟩=some (.slice sA sn sc):=λW hW=>(hW.cell (p:=⟨w.heap.size,8,none⟩) (Blk.lt k0)).trans (Blk.cell k0 8)
 have a9:∀W,uR wx W->W.cell? ⟨w.heap.size,9,none⟩=some (.slice fA fn fc):=λW hW=>(hW.cell (p:=⟨w.heap.size,9,none⟩) (Blk.lt k0)).trans (Blk.cell k0 9)
 have a10:∀W,uR wx W->W.cell? ⟨w.heap.size,10,none⟩=some (.slice rA rn rc):=λW hW=>(hW.cell (p:=⟨w.heap.size,10,none⟩) (Blk.lt k0)).trans (Blk.cell k0 10)
 have b0:∀W,uR wx W->W.cell? ⟨w.heap.size+1,0,none⟩=some (.int .i64 code):=λW hW=>(hW.cell (p:=⟨w.heap.size+1,0,none⟩) (Blk.lt k1)).trans (Blk.cell k1 0)
 have b1:∀W,uR wx W->W.cell? ⟨w.heap.size+1,1,none⟩=some (.int .i64 who):=λW hW=>(hW.cell (p:=⟨w.heap.size+1,1,none⟩) (Blk.lt k1)).trans (Blk.cell k1 1)
 have b2:∀W,uR wx W->W.cell? ⟨w.heap.size+1,2,none⟩=some (.int .i64 q0):=λW hW=>(hW.cell (p:=⟨w.heap.size+1,2,none⟩) (Blk.lt k1)).trans (Blk.cell k1 2)
 have b3:∀W,uR wx W->W.cell? ⟨w.heap.size+1,3,none⟩=some (.int .i64 q1):=λW hW=>(hW.cell (p:=⟨w.heap.size+1,3,none⟩) (Blk.lt k1)).trans (Blk.cell k1 3)
 have b4:∀W,uR wx W->W.cell? ⟨w.heap.size+1,4,none⟩=some (.int .i64 q2):=λW hW=>(hW.cell (p:=⟨w.heap.size+1,4,none⟩) (Blk.lt k1)).trans (Blk.cell k1 4)
 have b5:∀W,uR wx W->W.cell? ⟨w.heap.size+1,5,none⟩=some (.int .i64 q3):=λW hW=>(hW.cell (p:=⟨w.heap.size+1,5,none⟩) (Blk.lt k1)).trans (Blk.cell k1 5)
 have b6:∀W,uR wx W->W.cell? ⟨w.heap.size+1,6,none⟩=some (.int .i64 q4):=λW hW=>(hW.cell (p:=⟨w.heap.size+1,6,none⟩) (Blk.lt k1)).trans (Blk.cell k1 6)
 have b7:∀W,uR wx W->W.cell? ⟨w.heap.size+1,7,none⟩=some (.int .i64 value):=λW hW=>(hW.cell (p:=⟨w.heap.size+1,7,none⟩) (Blk.lt k1)).trans (Blk.cell k1 7)
 have b8:∀W,uR wx W->W.cell? ⟨w.heap.size+1,8,none⟩=some (.slice sA' sn sc'):=λW hW=>(hW.cell (p:=⟨w.heap.size+1,8,none⟩) (Blk.lt k1)).trans (Blk.cell k1 8)
 have b9:∀W,uR wx W->W.cell? ⟨w.heap.size+1,9,none⟩=some (.slice fA' fn fc'):=λW hW=>(hW.cell (p:=⟨w.heap.size+1,9,none⟩) (Blk.lt k1)).trans (Blk.cell k1 9)
 have b10:∀W,uR wx W->W.cell? ⟨w.heap.size+1,10,none⟩=some (.slice rA' rn rc'):=λW hW=>(hW.cell (p:=⟨w.heap.size+1,10,none⟩) (Blk.lt k1)).trans (Blk.cell k1 10)
 obtain⟨HF,HRP,HSR,HSR',HSL⟩:=uL (λW (hW:uR w W)=>zVh fA fA' fn fc fc' frame B W fl (by unfold maxLen at fm;omega) (fr.below (hW.mono hB)) (fr'.below (hW.mono hB))) (λW (hW:uR w W)=>zXn rA rA' rn rc rc' report B W rl (by unfold maxLen at rm;omega) (rr.below (hW.mono hB)) (rr'.below (hW.mono hB))) (sr.below (hbx.mono hB)) (sr'.below (hbx.mono hB)) sl;have hsn:sn<=9223372036854775807:=by unfold maxLen at sm;omega
 have HBX:=uT hbx;have HWX:uS (wx=_):=uT hwx;rw[hw1]at hwx;have HWX2:=uT hwx;have hz0:uR wx wx:=qC _ _;clear hb1 hbx hwx hs1 k0 k1 sl sr sc1 sm fl fr fc1 fm rl rr rc1 rm sl' sr' sc1' sm' fl' fr' fc1' fm' rl' rr' rc1' rm' HWX;go_enter func26,ntmps26;go_wp2_with fail;rw[<-HWX2.s];refine(HF.s wx HBX.s).mono ?_;rintro _ w2 ⟨rfl,nq,hw2⟩;have hz2:uR wx w2:=by rw[<-hw2];exact below_drewN (qC _ _) nq
 clear hw2 hz0;go_wp2_with fail;refine(HRP.s w2 (HBX.s.trans (hz2.mono HBX.s.size))).mono ?_;rintro _ w3 ⟨rfl,nq3,hw3⟩;have hz3:uR wx w3:=by rw[<-hw3];exact below_drewN hz2 nq3
 clear hw3 hz2;go_wp2_with fail
 go_loopw [5] (λi wr=>∃k:Nat,k<=sn/\i= .int .i64 k/\uR wx wr) (λi _=>sn-(intOf i).toNat)
 case atStart=>exact⟨0,qO _,rfl,hz3⟩
 case round=>
  obtain⟨k,hk,rfl,hz4⟩:=hrel;clear hz3;by_cases hlt:k<sn
  ·obtain⟨b,o,e,rfl,hbl,he,hc⟩:=dV Envl.cells_len (by omega) (HSR.s.below (hz4.mono (qL hB HBX.s.size))) hlt HSL.s;obtain⟨b',o',e',rfl,hbl',he',hc'⟩:=dV Envl.cells_len (by omega) (HSR'.s.below (hz4.mono (qL hB HBX.s.size))) hlt HSL.s;obtain rfl:e=e':=by rw[he]at he';injection he'
   have c0:=hc 0 _ rfl;have c1:=hc 1 _ rfl;have c2:=hc 2 _ rfl;have c3:=hc 3 _ rfl;have d0:=hc' 0 _ rfl;have d1:=hc' 1 _ rfl;have d2:=hc' 2 _ rfl;have d3:=hc' 3 _ rfl;simp only[Nat.add_zero]at c0 d0;have hkn:(k:Int)<(sn:Int):=by omega
   clear he he' hbl hbl' hc hc';go_wp2_with fail;go_quiet (fail);go_wp2_with fail;go_roundw
   case rel=>exact⟨k+1,by omega,by go_num,below_drewN hz4 nq⟩
   case measure=>simp[intOf];omega
  ·obtain rfl:k=sn:=by omega
   go_wp2_with fail;go_ret;exact⟨rfl,HBX.s.trans (hz4.mono HBX.s.size)⟩
theorem zWe(A A':Option Addr)(n c c':Nat)(l l':List Tol)(B:Nat)(w:World)(hl:l.length=n)(hd:l.map (·.d)=l'.map (·.d))(hm:n<=9223372036854775807)(hr:Reads w B 11 A n (l.flatMap Tol.cells))(hr':Reads w B 11 A' n (l'.flatMap Tol.cells))(hok:∀t∈l,t.ok w B)(hok':∀t∈l',t.ok w B)(hB:B<=w.heap.size):Calls prog 9 #[.slice A n c,.slice A' n c'] w λe w'=>e= .returned (.bool true)/\uR w w':=by
 obtain⟨HR,HR',HL,HL',HD,HOK,HOK'⟩:=uN hr hr' hl (show l'.length=n by have:=congrArg List.length hd;simp at this;omega) hd hok hok';clear hr hr' hl hd hok hok';go_enter func9,ntmps9;go_wp2_with fail
 go_loopw [5] (λi wr=>∃k:Nat,k<=n/\i= .int .i64 k/\uR w wr) (λi _=>n-(intOf i).toNat)
 case atStart=>exact⟨0,qO _,rfl,qC _ _⟩
 case round=>
  obtain⟨k,hk,rfl,hb⟩:=hrel;by_cases hlt:k<n
  ·obtain⟨b,o,t,rfl,_,ht,hc⟩:=dV Tol.cells_len (by omega) (HR.s.below (hb.mono hB)) hlt HL.s;obtain⟨b',o',t',rfl,_,ht',hc'⟩:=dV Tol.cells_len (by omega) (HR'.s.below (hb.mono hB)) hlt HL'.s;have hdd:t.d=t'.d:=by have h:=congrArg (λl=>l[k]?) HD.s;simp only[qV,ht,ht',Option.map_some]at h;injection h
   have HS:=uT (λW (hW:uR wr W)=>zZl t t' B W hdd ((HOK.s t (qB ht)).below ((hb.mono hB).trans (hW.mono (qL hB hb.size)))) ((HOK'.s t' (qB ht')).below ((hb.mono hB).trans (hW.mono (qL hB hb.size)))) (qL hB (qL hb.size hW.size)));obtain⟨⟨code,who,⟨q0,q1,q2,q3,q4⟩,value,sent,frame,report⟩,sA,sn,sc,fA,fn,fc,rA,rn,rc⟩:=t;obtain⟨⟨code',who',⟨q0',q1',q2',q3',q4'⟩,value',sent',frame',report'⟩,sA',sn',sc',fA',fn',fc',rA',rn',rc'⟩:=t';unfold Tol.val at HS;dsimp only at HS;have c0:=hc 0 _ rfl;have c1:=hc 1 _ rfl;have c2:=hc 2 _ rfl;have c3:=hc 3 _ rfl;have c4:=hc 4 _ rfl;have c5:=hc 5 _ rfl;have c6:=hc 6 _ rfl;have c7:=hc 7 _ rfl;have c8:=hc 8 _ rfl;have c9:=hc 9 _ rfl;have c10:=hc 10 _ rfl;simp only[Nat.add_zero]at c0;have cc0:=λn:Ext wr=>n.cell c0
   have cc1:=λn:Ext wr=>n.cell c1
   have cc2:=λn:Ext wr=>n.cell c2
   have cc3:=λn:Ext wr=>n.cell c3
   have cc4:=λn:Ext wr=>n.cell c4
   have cc5:=λn:Ext wr=>n.cell c5
   have cc6:=λn:Ext wr=>n.cell c6
   have cc7:=λn:Ext wr=>n.cell c7
   have cc8:=λn:Ext wr=>n.cell c8
   have cc9:=λn:Ext wr=>n.cell c9
   have cc10:=λn:Ext wr=>n.cell c10
   dsimp only at cc0 cc1 cc2 cc3 cc4 cc5 cc6 cc7 cc8 cc9 cc10;clear c0 c1 c2 c3 c4 c5 c6 c7 c8 c9 c10;have d0:=hc' 0 _ rfl;have d1:=hc' 1 _ rfl;have d2:=hc' 2 _ rfl;have d3:=hc' 3 _ rfl;have d4:=hc' 4 _ rfl;have d5:=hc' 5 _ rfl;have d6:=hc' 6 _ rfl;have d7:=hc' 7 _ rfl;have d8:=hc' 8 _ rfl;have d9:=hc' 9 _ rfl;have d10:=hc' 10 _ rfl;simp only[Nat.add_zero]at d0;have dd0:=λn:Ext wr=>n.cell d0
   have dd1:=λn:Ext wr=>n.cell d1
   have dd2:=λn:Ext wr=>n.cell d2
   have dd3:=λn:Ext wr=>n.cell d3
   have dd4:=λn:Ext wr=>n.cell d4
   have dd5:=λn:Ext wr=>n.cell d5
   have dd6:=λn:Ext wr=>n.cell d6
   have dd7:=λn:Ext wr=>n.cell d7
   have dd8:=λn:Ext wr=>n.cell d8
   have dd9:=λn:Ext wr=>n.cell d9
   have dd10:=λn:Ext wr=>n.cell d10
   dsimp only at dd0 dd1 dd2 dd3 dd4 dd5 dd6 dd7 dd8 dd9 dd10;clear d0 d1 d2 d3 d4 d5 d6 d7 d8 d9 d10;have hkn:(k:Int)<(n:Int):=by omega
   have HB:=uT hb;clear ht ht' hc hc' hdd hb;go_wp2_with fail;refine dS (by kernel_rfl) (by kernel_rfl) ?_
   repeat(go_big_quiet_step ((go_at_call 26;exact gH (HS.s _ (Ext.h _)))))
   refine qF ?_;rintro _ ⟨nq,rfl⟩;go_wp2_with fail;go_roundw
   case rel=>exact⟨k+1,by omega,by go_num,HB.s.trans (nq.h.mono HB.s.size)⟩
   case measure=>simp[intOf];omega
  ·obtain rfl:k=n:=by omega
   go_wp2_with fail;go_ret;exact⟨rfl,hb⟩
end
structure TolOwn(t:Tol)(w:World)(base:Nat):Prop where
 so:w.ownsRow base 111 4 (.slice t.sA t.sn t.sc) t.sn (t.d.sent.flatMap Envl.cells)
 fo:w.ownsRow base 5 1 (.slice t.fA t.fn t.fc) t.fn (t.d.frame.map (.int .u8))
 ro:w.ownsRow base 3 1 (.slice t.rA t.rn t.rc) t.rn (t.d.report.map (.int .i64))
section
variable {t:Tol}{w w':World}{base base':Nat}
theorem TolOwn.below(h:TolOwn t w base)(hb:uR w w'):TolOwn t w' base:=⟨bM h.so hb,bM h.fo hb,bM h.ro hb⟩
theorem TolOwn.mono(h:TolOwn t w base)(hb:base'<=base):TolOwn t w base':=⟨fK h.so hb,fK h.fo hb,fK h.ro hb⟩
theorem TolOwn.grown{size n:Nat}{v:Value}{xs:List Value}(h:TolOwn t w base)(hown:w.ownsRow base' 57 size v n xs)(hg:w.grownBy w' v.ownBlock):TolOwn t w' base:=
 ⟨jR h.so hg (dU h.so hown (by decide)),jR h.fo hg (dU h.fo hown (by decide)),jR h.ro hg (dU h.ro hown (by decide))⟩
theorem TolOwn.ok(h:TolOwn t w base):t.ok w w.heap.size where
 sl:=by have:=h.so.1;rw[zEd Envl.cells_len]at this;omega
 sc:=(dY h.so).2.1
 sm:=(dY h.so).2.2
 sr:=Reads.of_own h.so
 fl:=by have:=h.fo.1;simpa using this
 fc:=(dY h.fo).2.1
 fm:=(dY h.fo).2.2
 fr:=Reads.of_own h.fo
 rl:=by have:=h.ro.1;simpa using this
 rc:=(dY h.ro).2.1
 rm:=(dY h.ro).2.2
 rr:=Reads.of_own h.ro
end
def OutT(w:World)(base:Nat)(v:Value)(l:List Tol):Prop:=w.ownsRow base 57 11 v l.length (l.flatMap Tol.cells)/\∀t∈l,TolOwn t w base
section
variable {w w':World}{base:Nat}{v v':Value}{l:List Tol}{t:Tol}
theorem OutT.nil(w:World)(base:Nat):OutT w base (.slice none 0 0) []:=⟨qH _ _ _ _,λ_ h=>by cases h⟩
theorem OutT.below(h:OutT w base v l)(hb:uR w w'):OutT w' base v l:=⟨bM h.1 hb,λt ht=>(h.2 t ht).below hb⟩
theorem OutT.push(h:OutT w base v l)(ht:TolOwn t w base)(hg:w.grownBy w' v.ownBlock)(hown:w'.ownsRow base 57 11 v' (l.length+1) (l.flatMap Tol.cells++t.cells)):OutT w' base v' (l++[t]):=by
 refine⟨?_,λx hx=> ?_⟩
 ·rw[qM,jP];simpa using hown
 ·rcases jL.1 hx with h1|h1
  ·exact(h.2 x h1).grown h.1 hg
  ·rw[jN]at h1;subst h1;exact ht.grown h.1 hg
theorem OutT.at_(h:OutT w base v l):∃A c,v= .slice A l.length c/\l.length<=c/\c<=maxLen/\Reads w w.heap.size 11 A l.length (l.flatMap Tol.cells)/\∀t∈l,t.ok w w.heap.size:=by obtain⟨A,c,rfl,hc⟩:=bG h.1;exact⟨A,c,rfl,hc,(dY h.1).2.2,Reads.of_own h.1,λt ht=>(h.2 t ht).ok⟩
end
theorem yFz:(prog.info? 57).map (λi=>(i.zero,i.size,i.bytes))=some (some (.agg #[.int .i64 0,.int .i64 0,.int .i64 0,.int .i64 0,.int .i64 0,.int .i64 0,.int .i64 0,.int .i64 0,.slice none 0 0,.slice none 0 0,.slice none 0 0]),11,136):=by kernel_rfl
theorem zUz:∃i,prog.info? 57=some i/\i.zero=some (.agg #[.int .i64 0,.int .i64 0,.int .i64 0,.int .i64 0,.int .i64 0,.int .i64 0,.int .i64 0,.int .i64 0,.slice none 0 0,.slice none 0 0,.slice none 0 0])/\i.size=11/\i.bytes=136:=by
 have h:=yFz;cases hi:prog.info? 57 with
 |none=>rw[hi]at h;simp at h
 |some i=>rw[hi]at h;simp at h;exact⟨i,rfl,h.1,h.2.1,h.2.2⟩
end Go.Proofs.YtbolcebmbpepdaaGreatDoor
