/- Contracts. Conditions: those each states. -/
import Derived.Test.YtbolcebmbpepdaaGreatDoorM04
namespace Go.Proofs.YtbolcebmbpepdaaGreatDoor
set_option maxRecDepth 100000
set_option maxHeartbeats 8000000
set_option linter.all false
open Go.RowKit Tryz
theorem yAn{n:Int}(h:n<1\/1048576<n)(k l i:Int):gS ⟨k,n,l,i⟩=false:=by unfold gS;dsimp only;rcases h with h|h<;>simp<;>omega
theorem zBn{n:Int}(h1:1<=n)(h2:n<=1048576)(k l i:Int):gS ⟨k,n,l,i⟩=true:=by unfold gS;dsimp only;simp;omega
def zBu(base g o:Nat)(cs:Array Value)(vc vl:Value)(w:World)(r:Rk×Int×Int)(e:Ending)(w':World):Prop:=
 ∃vc' vl',e= .returned (.tuple #[.int .i64 r.2.1,.int .i64 r.2.2])/\RkAt w' base g o (putAt cs o (r.1.cells vc' vl')) r.1 vc' vl'/\Only (RkD g vc vl) w w'/\∀k,RkD g vc' vl' k->RkD g vc vl k\/w.heap.size<=k
theorem zAk{base g o:Nat}{cs:Array Value}{r:Rk}{vc vl:Value}{w w':World}{a b:Int}(h:RkAt w' base g o cs r vc vl)(hb:uR w w'):zBu base g o cs vc vl w (r,a,b) (.returned (.tuple #[.int .i64 a,.int .i64 b])) w':=
 ⟨vc,vl,rfl,by rw[zFw cs o _ h.has];exact h,Only.of_below hb λx hx hB=>by omega,λk hk=> .inl hk⟩
theorem zAz{base g o:Nat}{cs:Array Value}{r:Rk}{vc vl:Value}{w:World}{K:Nat}(h:RkAt w base g o cs r vc vl)(hs:r.ok K)(kind n life id:Int):∃wx:World,wx.cell? ⟨w.heap.size,0,none⟩=some (.int .i64 kind)/\wx.cell? ⟨w.heap.size,1,none⟩=some (.int .i64 n)/\wx.cell? ⟨w.heap.size,2,none⟩=some (.int .i64 life)/\wx.cell? ⟨w.heap.size,3,none⟩=some (.int .i64 id)/\wx.cell? ⟨g,o,none⟩=some (.int .i64 r.free)/\wx.cell? ⟨g,o+1,none⟩=some (.int .i64 r.used)/\(w.alloc (.cells #[.int .i64 kind,.int .i64 n,.int .i64 life,.int .i64 id] 130)).cell? ⟨w.heap.size,0,none⟩=some (.int .i64 kind)/\(w.alloc (.cells #[.int .i64 kind,.int .i64 n,.int .i64 life,.int .i64 id] 130)).cell? ⟨w.heap.size,1,none⟩=some (.int .i64 n)/\(w.alloc (.cells #[.int .i64 kind,.int .i64 n,.int .i64 life,.int .i64 id] 130)).cell? ⟨w.heap.size,2,none⟩=some (.int .i64 life)/\(w.alloc (.cells #[.int .i64 kind,.int .i64 n,.int .i64 life,.int .i64 id] 130)).cell? ⟨w.heap.size,3,none⟩=some (.int .i64 id)/\(w.alloc (.cells #[.int .i64 kind,.int .i64 n,.int .i64 life,.int .i64 id] 130)).cell? ⟨g,o,none⟩=some (.int .i64 r.free)/\(w.alloc (.cells #[.int .i64 kind,.int .i64 n,.int .i64 life,.int .i64 id] 130)).cell? ⟨g,o+1,none⟩=some (.int .i64 r.used)/\0<=r.free/\0<=r.used/\0<=cJ r.rows/\cJ r.rows<=1048576/\r.free<=1048576/\r.used<=1048576/\r.rows.length<=K/\ uS (RkAt wx base g o cs r vc vl)/\uS (uR w wx)/\uS (wx=w.alloc (.cells #[.int .i64 kind,.int .i64 n,.int .i64 life,.int .i64 id] 130))/\uS (r.ok K)/\uS (Blk wx w.heap.size 130 #[.int .i64 kind,.int .i64 n,.int .i64 life,.int .i64 id])/\uS (∀k,RkD g vc vl k->k<w.heap.size):=by have hbx:uR w (w.alloc (.cells #[.int .i64 kind,.int .i64 n,.int .i64 life,.int .i64 id] 130)):=(qC _ _).alloc (qA _) _;have k0:=Blk.new w 130 #[.int .i64 kind,.int .i64 n,.int .i64 life,.int .i64 id];have hx:=h.calm hbx;have hall:=hs.all;have hf0:=hs.free0;have hu0:=hs.used0;have hh0:=(zHj hs.rows).1;exact⟨_,k0.cell 0,k0.cell 1,k0.cell 2,k0.cell 3,hx.c0,hx.c1,k0.cell 0,k0.cell 1,k0.cell 2,k0.cell 3,hx.c0,hx.c1,hf0,hu0,hh0,by omega,by omega,by omega,hs.len,uT hx,uT hbx,uT rfl,uT hs,uT k0,uT h.lt⟩
theorem zLx(base g o:Nat)(cs:Array Value)(r:Rk)(vc vl:Value)(w:World)(kind n life id:Int)(K:Nat)(h:RkAt w base g o cs r vc vl)(hs:r.ok K)(hK:K<=1000000-1)(hB:base<=w.heap.size)(hkd:kind=1\/kind=2\/kind=3\/kind=6)(hc:n<1\/1048576<n):Calls prog 75 #[.pointer (some ⟨g,o,none⟩),(⟨kind,n,life,id⟩:Ordr).val] w (zBu base g o cs vc vl w (r.order ⟨kind,n,life,id⟩)):=by
 unfold Ordr.val;dsimp only;obtain⟨wx,q0,q1,q2,q3,c0,c1,q0a,q1a,q2a,q3a,c0a,c1a,hf0,hu0,hh0,hh1,hf1,hu1,hlen,HX,HBX,HWX,HS,HK0,HLT⟩:=zAz h hs kind n life id;clear h hs;have HF:=uT (show r.order ⟨kind,n,life,id⟩=(r,0,2)by unfold Rk.order;rw[yAn hc];rcases hkd with rfl|rfl|rfl|rfl<;>rfl);rcases hkd with rfl|rfl|rfl|rfl
 all_goals
  by_cases hc1:n<1
  all_goals
   first|have hd1:decide (n<1)=true:=decide_eq_true hc1|(have hd1:decide (n<1)=false:=decide_eq_false hc1;have hd2:decide (1048576<n)=true:=decide_eq_true (by omega))
   clear hc;go_enter func75,ntmps75;go_wp2_with fail;go_ret2;rw[HF.s,<-HWX.s];exact zAk HX.s HBX.s
theorem yHt(base g o:Nat)(cs:Array Value)(r:Rk)(vc vl:Value)(w:World)(kind:Int)(n life id:Int)(K:Nat)(h:RkAt w base g o cs r vc vl)(hs:r.ok K)(hK:K<=1000000-1)(hB:base<=w.heap.size)(hk:kind<1\/7<kind):Calls prog 75 #[.pointer (some ⟨g,o,none⟩),(⟨kind,n,life,id⟩:Ordr).val] w (zBu base g o cs vc vl w (r.order ⟨kind,n,life,id⟩)):=by
 unfold Ordr.val;dsimp only;obtain⟨wx,q0,q1,q2,q3,c0,c1,q0a,q1a,q2a,q3a,c0a,c1a,hf0,hu0,hh0,hh1,hf1,hu1,hlen,HX,HBX,HWX,HS,HK0,HLT⟩:=zAz h hs kind n life id;clear h hs;have HF:=uT (show r.order ⟨kind,n,life,id⟩=(r,0,3)by unfold Rk.order;rw[if_pos hk]);have e1:(kind==1)=false:=by simp;omega
 have e2:(kind==2)=false:=by simp;omega
 have e3:(kind==3)=false:=by simp;omega
 have e6:(kind==6)=false:=by simp;omega
 by_cases hk1:kind<1
 ·have hd1:decide (kind<1)=true:=decide_eq_true hk1;clear hk;go_enter func75,ntmps75;go_wp2_with fail;go_ret2;rw[HF.s,<-HWX.s];exact zAk HX.s HBX.s
 ·have hd1:decide (kind<1)=false:=decide_eq_false hk1;have hd2:decide (7<kind)=true:=decide_eq_true (by omega);clear hk;go_enter func75,ntmps75;go_wp2_with fail;go_ret2;rw[HF.s,<-HWX.s];exact zAk HX.s HBX.s
theorem yEx(base g o:Nat)(cs:Array Value)(r:Rk)(vc vl:Value)(w:World)(n life id:Int)(K:Nat)(h:RkAt w base g o cs r vc vl)(hs:r.ok K)(hK:K<=1000000-1)(hB:base<=w.heap.size)(hc1:1<=n)(hc2:n<=1048576)(hov:1048576<r.free+cJ r.rows+r.used+n):Calls prog 75 #[.pointer (some ⟨g,o,none⟩),(⟨1,n,life,id⟩:Ordr).val] w (zBu base g o cs vc vl w (r.order ⟨1,n,life,id⟩)):=by
 unfold Ordr.val;dsimp only;obtain⟨wx,q0,q1,q2,q3,c0,c1,q0a,q1a,q2a,q3a,c0a,c1a,hf0,hu0,hh0,hh1,hf1,hu1,hlen,HX,HBX,HWX,HS,HK0,HLT⟩:=zAz h hs 1 n life id;clear h hs;have HF:=uT (show r.order ⟨1,n,life,id⟩=(r,0,12)by unfold Rk.order;rw[zBn hc1 hc2];simp[dG,hov])
 have HH:=uT (λW (hW:uR wx W)=>(zGe base g o cs r vc vl W K (HX.s.calm hW) HS.s (by omega)).mono λe w' (h:e= .returned (.int .i64 (cJ r.rows))/\W=w')=>And.intro h.1 (show uR W w' by rw[<-h.2];exact qC _ _));have cc0:=λn:Ext wx=>n.cell c0
 have cc1:=λn:Ext wx=>n.cell c1
 have cq1:=λn:Ext wx=>n.cell q1
 have s1:IntKind.i64.wrap (r.free+cJ r.rows)=r.free+cJ r.rows:=IntWalk.i64_in _ (by omega);have s2:IntKind.i64.wrap (r.free+cJ r.rows+r.used)=r.free+cJ r.rows+r.used:=IntWalk.i64_in _ (by omega);have s3:IntKind.i64.wrap (r.free+cJ r.rows+r.used+n)=r.free+cJ r.rows+r.used+n:=IntWalk.i64_in _ (by omega);have HS123:=uT (And.intro s1 (And.intro s2 s3));clear s1 s2 s3;have hd1:decide (n<1)=false:=decide_eq_false (by omega);have hd2:decide (1048576<n)=false:=decide_eq_false (by omega);go_enter func75,ntmps75;go_wp2_with fail;rw[<-HWX.s];obtain⟨s1,s2,s3⟩:=HS123.s;refine dR (by kernel_rfl) (by kernel_rfl) ?_
 repeat(go_big_quiet_step ((go_at_call 28;exact fT (HH.s _ (Ext.h _)))))
 refine qF ?_;rintro _ ⟨nq,rfl⟩;clear s1 s2 s3;go_wp2_with fail;go_ret2;rw[HF.s];exact zAk (HX.s.calm nq.h) (HBX.s.trans (nq.h.mono HBX.s.size))
theorem rack1_ok(base g o:Nat)(cs:Array Value)(r:Rk)(vc vl:Value)(w:World)(n life id:Int)(K:Nat)(h:RkAt w base g o cs r vc vl)(hs:r.ok K)(hK:K<=1000000-1)(hB:base<=w.heap.size)(hc1:1<=n)(hc2:n<=1048576)(hov:r.free+cJ r.rows+r.used+n<=1048576):Calls prog 75 #[.pointer (some ⟨g,o,none⟩),(⟨1,n,life,id⟩:Ordr).val] w (zBu base g o cs vc vl w (r.order ⟨1,n,life,id⟩)):=by
 unfold Ordr.val;dsimp only;obtain⟨wx,q0,q1,q2,q3,c0,c1,q0a,q1a,q2a,q3a,c0a,c1a,hf0,hu0,hh0,hh1,hf1,hu1,hlen,HX,HBX,HWX,HS,HK0,HLT⟩:=zAz h hs 1 n life id;clear h hs;have HF:=uT (show r.order ⟨1,n,life,id⟩=(⟨r.free+n,r.used,r.rows⟩,0,0)by unfold Rk.order;rw[zBn hc1 hc2];simp[dG,show ¬ 1048576<r.free+cJ r.rows+r.used+n by omega])
 have HH:=uT (λW (hW:uR wx W)=>(zGe base g o cs r vc vl W K (HX.s.calm hW) HS.s (by omega)).mono λe w' (h:e= .returned (.int .i64 (cJ r.rows))/\W=w')=>And.intro h.1 (show uR W w' by rw[<-h.2];exact qC _ _));have cc0:=λn:Ext wx=>n.cell c0
 have cc1:=λn:Ext wx=>n.cell c1
 have cq1:=λn:Ext wx=>n.cell q1
 have s1:IntKind.i64.wrap (r.free+cJ r.rows)=r.free+cJ r.rows:=IntWalk.i64_in _ (by omega);have s2:IntKind.i64.wrap (r.free+cJ r.rows+r.used)=r.free+cJ r.rows+r.used:=IntWalk.i64_in _ (by omega);have s3:IntKind.i64.wrap (r.free+cJ r.rows+r.used+n)=r.free+cJ r.rows+r.used+n:=IntWalk.i64_in _ (by omega);have HS123:=uT (And.intro s1 (And.intro s2 s3));clear s1 s2 s3;have hd1:decide (n<1)=false:=decide_eq_false (by omega);have hd2:decide (1048576<n)=false:=decide_eq_false (by omega);go_enter func75,ntmps75;go_wp2_with fail;rw[<-HWX.s];obtain⟨s1,s2,s3⟩:=HS123.s;refine dR (by kernel_rfl) (by kernel_rfl) ?_
 repeat(go_big_quiet_step ((go_at_call 28;exact fT (HH.s _ (Ext.h _)))))
 refine qF ?_;rintro _ ⟨nq,rfl⟩;clear s1 s2 s3;go_wp2_with fail;have hx2:=HX.s.calm nq.h;have d0:=hx2.c0;have f0:=hx2.fr o;have k2:=HK0.s.below nq.h HK0.s.lt;have r1:=k2.cell 1;have HX2:=uT hx2;clear hx2 k2;refine bV 9 (by kernel_rfl) (by kernel_rfl) ?_;simp only[qX,jE,qZ,jL]
 repeat(go_big_quiet_step (fail))
 refine qF ?_;rintro _ ⟨nq2,rfl⟩;go_wp2_with fail;go_ret2;rw[HF.s];refine⟨vc,vl,rfl,(HX2.s.calm (below_drewN (qC _ _) nq2)).free_ (r.free+n),?_,λk hk=> .inl hk⟩;have h1:Only (RkD g vc vl) w wx:=Only.of_below HBX.s λx hx hB=>by omega
 exact Only.setCell (((h1.calm nq.h).drewN nq2)) (λ_=> .inl rfl) _
theorem zUm(base g o:Nat)(cs:Array Value)(r:Rk)(vc vl:Value)(w:World)(kind n life id:Int)(K:Nat)(h:RkAt w base g o cs r vc vl)(hs:r.ok K)(hK:K<=1000000-1)(hB:base<=w.heap.size)(hc1:1<=n)(hc2:n<=1048576)(hls:kind=2/\r.free<n\/kind=6/\r.used<n):Calls prog 75 #[.pointer (some ⟨g,o,none⟩),(⟨kind,n,life,id⟩:Ordr).val] w (zBu base g o cs vc vl w (r.order ⟨kind,n,life,id⟩)):=by
 unfold Ordr.val;dsimp only;obtain⟨wx,q0,q1,q2,q3,c0,c1,q0a,q1a,q2a,q3a,c0a,c1a,hf0,hu0,hh0,hh1,hf1,hu1,hlen,HX,HBX,HWX,HS,HK0,HLT⟩:=zAz h hs kind n life id;clear h hs;have HF:=uT (show r.order ⟨kind,n,life,id⟩=(r,0,9)by unfold Rk.order;rw[zBn hc1 hc2];rcases hls with⟨rfl,h⟩|⟨rfl,h⟩<;>simp[dG,h])
 rcases hls with⟨rfl,hls⟩|⟨rfl,hls⟩
 all_goals
  have hd1:decide (n<1)=false:=decide_eq_false (by omega);have hd2:decide (1048576<n)=false:=decide_eq_false (by omega);go_enter func75,ntmps75;go_wp2_with fail;rw[<-HWX.s];go_quiet (fail);go_wp2_with fail;go_ret2;rw[HF.s];exact zAk (HX.s.calm (below_drewN (qC _ _) nq)) (below_drewN HBX.s nq)
theorem zQw(base g o:Nat)(cs:Array Value)(r:Rk)(vc vl:Value)(w:World)(kind n life id:Int)(K:Nat)(h:RkAt w base g o cs r vc vl)(hs:r.ok K)(hK:K<=1000000-1)(hB:base<=w.heap.size)(hc1:1<=n)(hc2:n<=1048576)(v1 v2:Int)(hls:kind=2/\n<=r.free/\v1=r.free-n/\v2=r.used+n\/kind=6/\n<=r.used/\v1=r.free+n/\v2=r.used-n):Calls prog 75 #[.pointer (some ⟨g,o,none⟩),(⟨kind,n,life,id⟩:Ordr).val] w (zBu base g o cs vc vl w (r.order ⟨kind,n,life,id⟩)):=by
 unfold Ordr.val;dsimp only;obtain⟨wx,q0,q1,q2,q3,c0,c1,q0a,q1a,q2a,q3a,c0a,c1a,hf0,hu0,hh0,hh1,hf1,hu1,hlen,HX,HBX,HWX,HS,HK0,HLT⟩:=zAz h hs kind n life id;clear h hs;have HF:=uT (show r.order ⟨kind,n,life,id⟩=(⟨v1,v2,r.rows⟩,0,0)by
  unfold Rk.order;rw[zBn hc1 hc2];rcases hls with⟨rfl,h,rfl,rfl⟩|⟨rfl,h,rfl,rfl⟩
  ·simp[dG,show ¬ r.free<n by omega]
  ·simp[dG,show ¬ r.used<n by omega])
 rcases hls with⟨rfl,hls,rfl,rfl⟩|⟨rfl,hls,rfl,rfl⟩
 all_goals
  have hd1:decide (n<1)=false:=decide_eq_false (by omega);have hd2:decide (1048576<n)=false:=decide_eq_false (by omega);go_enter func75,ntmps75;go_wp2_with fail;rw[<-HWX.s];go_quiet (fail);go_wp2_with fail;clear q0a q1a q2a q3a c0a c1a;have f0:wx.frozen? ⟨g,o,none⟩=false:=HX.s.fr o;refine bV 9 (by kernel_rfl) (by kernel_rfl) ?_;simp only[qX,jE,qZ,jL]
  repeat(go_big_quiet_step (fail))
  refine qF ?_;rintro _ ⟨nq2,rfl⟩;go_wp2_with fail
  first|(have hls1:n<=r.free:=hls;obtain⟨w2,hw2⟩:=kB (((wx.drewN nq).drewN nq2).setCell ⟨g,o,none⟩ (.int .i64 (r.free-n)));have hx2:=RkAt.free_ (HX.s.calm (below_drewN (below_drewN (qC _ _) nq) nq2)) (r.free-n))|(obtain⟨w2,hw2⟩:=kB (((wx.drewN nq).drewN nq2).setCell ⟨g,o,none⟩ (.int .i64 (r.free+n)));have hx2:=RkAt.free_ (HX.s.calm (below_drewN (below_drewN (qC _ _) nq) nq2)) (r.free+n))
  rw[<-hw2]at hx2;have hO2:Only (λk=>k=g) wx w2:=by rw[hw2];exact bJ (((Only.refl _ wx).drewN nq).drewN nq2) _ _
  have k2:=HK0.s.only hO2 (λe=>by have:=HLT.s g (.inl rfl);omega);have d1:=hx2.c1;have p1:=k2.cell 1;have f1:=hx2.fr (o+1);obtain⟨HX2,HO2⟩:=uI hx2 hO2
  first|rw[<-hw2]|(rw[World.drewN_drewN]at hw2;rw[<-hw2])
  clear hx2 hO2 k2 hw2 c0 c1 q0 q1 q2 q3 f0;refine bV 9 (by kernel_rfl) (by kernel_rfl) ?_;simp only[qX,jE,qZ,jL]
  repeat(go_big_quiet_step (fail))
  refine qF ?_;rintro _ ⟨nq3,rfl⟩;go_wp2_with fail;go_ret2;rw[HF.s]
  first|(have hls1:n<=r.free:=hls;have hfin:=(HX2.s.calm (below_drewN (qC _ _) nq3)).used_ (r.used+n))|have hfin:=(HX2.s.calm (below_drewN (qC _ _) nq3)).used_ (r.used-n)
  rw[zBm _ _ _ _ (by simp[Rk.cells])]at hfin;refine⟨vc,vl,rfl,hfin,?_,λk hk=> .inl hk⟩;have h1:Only (RkD g vc vl) w wx:=Only.of_below HBX.s λx hx hB=>by omega
  exact Only.setCell ((h1.trans HO2.s λx _ h=> .inl h).drewN nq3) (λ_=> .inl rfl) _
theorem yFp:(prog.info? 3).map (λi=>(i.zero,i.size,i.bytes))=some (some (.int .i64 0),1,8):=by kernel_rfl
theorem yHm:∃i,prog.info? 3=some i/\i.zero=some (.int .i64 0)/\i.size=1/\i.bytes=8:=by
 have h:=yFp;cases hi:prog.info? 3 with
 |none=>rw[hi]at h;simp at h
 |some i=>rw[hi]at h;simp at h;exact⟨i,rfl,h.1,h.2.1,h.2.2⟩
structure RkRaw(w:World)(base g o:Nat)(cs:Array Value)(f u:Int)(vc vl:Value)(xs ys:List Value):Prop where
 blk:Blk w g 99 cs
 has:Has cs o [.int .i64 f,.int .i64 u,vc,vl]
 oc:w.ownsRow base 3 1 vc xs.length xs
 ol:w.ownsRow base 3 1 vl ys.length ys
 ne:∀k,vc.ownBlock=some k->vl.ownBlock=some k->False
section
variable {w w':World}{base g o:Nat}{cs:Array Value}{f u:Int}{vc vl:Value}{xs ys:List Value}
theorem RkAt.raw{r:Rk}(h:RkAt w base g o cs r vc vl):RkRaw w base g o cs r.free r.used vc vl (r.rows.map cntV) (r.rows.map lftV):=⟨h.blk,h.has,by simpa using h.oc,by simpa using h.ol,h.ne⟩
theorem RkRaw.at{r:Rk}(h:RkRaw w base g o cs r.free r.used vc vl (r.rows.map cntV) (r.rows.map lftV)):RkAt w base g o cs r vc vl:=⟨h.blk,h.has,by simpa using h.oc,by simpa using h.ol,h.ne⟩
theorem RkRaw.lt(h:RkRaw w base g o cs f u vc vl xs ys):∀k,RkD g vc vl k->k<w.heap.size:=λk hk=>by
 rcases hk with rfl|hk|hk
 ·exact h.blk.lt
 ·exact(h.oc.lt k hk).2
 ·exact(h.ol.lt k hk).2
theorem RkRaw.only{D:Nat->Prop}(h:RkRaw w base g o cs f u vc vl xs ys)(ho:Only D w w')(h1:∀k,RkD g vc vl k->¬ D k):RkRaw w' base g o cs f u vc vl xs ys:=
 ⟨h.blk.only ho (h1 g (.inl rfl)),h.has,bL h.oc ho (λk hk=>h1 k (.inr (.inl hk))),bL h.ol ho (λk hk=>h1 k (.inr (.inr hk))),h.ne⟩
theorem RkRaw.calm(h:RkRaw w base g o cs f u vc vl xs ys)(hb:uR w w'):RkRaw w' base g o cs f u vc vl xs ys:=
 h.only (D:=λk=>w.heap.size<=k) (Only.of_below hb λ_ _ h=>h) (λk hk=>by have:=h.lt k hk;omega)
theorem RkRaw.nc(h:RkRaw w base g o cs f u vc vl xs ys):vc.ownBlock≠some g:=bC h.oc h.blk (by decide)
theorem RkRaw.nl(h:RkRaw w base g o cs f u vc vl xs ys):vl.ownBlock≠some g:=bC h.ol h.blk (by decide)
theorem RkRaw.pushC(h:RkRaw w base g o cs f u vc vl xs ys){w1:World}{g4 cap:Nat}{x:Value}(hg:w.grownBy w1 vc.ownBlock)(hat:some g4=vc.ownBlock\/g4=w.heap.size+1)(hown:w1.ownsRow base 3 1 (.slice (some ⟨g4,0,none⟩) (xs.length+1) cap) (xs.length+1) (xs++[x])):RkRaw (w1.setCell ⟨g,o+2,none⟩ (.slice (some ⟨g4,0,none⟩) (xs.length+1) cap)) base g o (putAt cs o [.int .i64 f,.int .i64 u,.slice (some ⟨g4,0,none⟩) (xs.length+1) cap,vl]) f u (.slice (some ⟨g4,0,none⟩) (xs.length+1) cap) vl (xs++[x]) ys:=by
 have hb:=h.blk.grown hg (Ne.symm h.nc);have hne:∀k,some g4=some k->vl.ownBlock=some k->False:=λk hk hl=>by
  injection hk with hk;subst hk;rcases hat with e|e
  ·exact h.ne _ e.symm hl
  ·have:=(h.ol.lt _ hl).2;omega
 have hol:w1.ownsRow base 3 1 vl ys.length ys:=jS h.ol hg (by
  by_cases e:vl.ownBlock=none
  ·exact .inl e
  ·right
   intro e2;cases hv:vl.ownBlock with
   |none=>exact e hv
   |some k=>exact h.ne k (by rw[<-e2,hv]) hv)
 refine⟨hb.put_ (j:=2) h.has (by simp) _,Has.putAt _ _ _ (h.has.le (by simp)),jS (by simpa using hown) (fV (World.grownBy.refl w1 (some g)) (.inl rfl) _) (.inr (bC hown hb (by decide))),jS hol (fV (World.grownBy.refl w1 (some g)) (.inl rfl) _) (.inr (bC hol hb (by decide))),λk hk hl=>hne k hk hl⟩
theorem RkRaw.pushL(h:RkRaw w base g o cs f u vc vl xs ys){w1:World}{g4 cap:Nat}{x:Value}(hg:w.grownBy w1 vl.ownBlock)(hat:some g4=vl.ownBlock\/g4=w.heap.size+1)(hown:w1.ownsRow base 3 1 (.slice (some ⟨g4,0,none⟩) (ys.length+1) cap) (ys.length+1) (ys++[x])):RkRaw (w1.setCell ⟨g,o+3,none⟩ (.slice (some ⟨g4,0,none⟩) (ys.length+1) cap)) base g o (putAt cs o [.int .i64 f,.int .i64 u,vc,.slice (some ⟨g4,0,none⟩) (ys.length+1) cap]) f u vc (.slice (some ⟨g4,0,none⟩) (ys.length+1) cap) xs (ys++[x]):=by
 have hb:=h.blk.grown hg (Ne.symm h.nl);have hne:∀k,some g4=some k->vc.ownBlock=some k->False:=λk hk hl=>by
  injection hk with hk;subst hk;rcases hat with e|e
  ·exact h.ne _ hl e.symm
  ·have:=(h.oc.lt _ hl).2;omega
 have hoc:w1.ownsRow base 3 1 vc xs.length xs:=jS h.oc hg (by
  by_cases e:vc.ownBlock=none
  ·exact .inl e
  ·right
   intro e2;cases hv:vc.ownBlock with
   |none=>exact e hv
   |some k=>exact h.ne k hv (by rw[<-e2,hv]))
 refine⟨hb.put_ (j:=3) h.has (by simp) _,Has.putAt _ _ _ (h.has.le (by simp)),jS hoc (fV (World.grownBy.refl w1 (some g)) (.inl rfl) _) (.inr (bC hoc hb (by decide))),jS (by simpa using hown) (fV (World.grownBy.refl w1 (some g)) (.inl rfl) _) (.inr (bC hown hb (by decide))),λk hk hl=>hne k hl hk⟩
end
theorem yEb(base g o:Nat)(cs:Array Value)(r:Rk)(vc vl:Value)(w:World)(n life id:Int)(K:Nat)(h:RkAt w base g o cs r vc vl)(hs:r.ok K)(hK:K<=1000000-1)(hB:base<=w.heap.size)(hc1:1<=n)(hc2:n<=1048576)(hl:life<1\/20<life):Calls prog 75 #[.pointer (some ⟨g,o,none⟩),(⟨3,n,life,id⟩:Ordr).val] w (zBu base g o cs vc vl w (r.order ⟨3,n,life,id⟩)):=by
 unfold Ordr.val;dsimp only;obtain⟨wx,q0,q1,q2,q3,c0,c1,q0a,q1a,q2a,q3a,c0a,c1a,hf0,hu0,hh0,hh1,hf1,hu1,hlen,HX,HBX,HWX,HS,HK0,HLT⟩:=zAz h hs 3 n life id;clear h hs;have HF:=uT (show r.order ⟨3,n,life,id⟩=(r,0,2)by unfold Rk.order;rw[zBn hc1 hc2];simp[dG,hl])
 have hd1:decide (n<1)=false:=decide_eq_false (by omega);have hd2:decide (1048576<n)=false:=decide_eq_false (by omega);by_cases h1:life<1
 ·have l1:decide (life<1)=true:=decide_eq_true h1;clear hl;go_enter func75,ntmps75;go_wp2_with fail;go_ret2;rw[HF.s,<-HWX.s];exact zAk HX.s HBX.s
 ·have l1:decide (life<1)=false:=decide_eq_false h1;have l2:decide (20<life)=true:=decide_eq_true (by omega);clear hl;go_enter func75,ntmps75;go_wp2_with fail;go_ret2;rw[HF.s,<-HWX.s];exact zAk HX.s HBX.s
theorem yEp(base g o:Nat)(cs:Array Value)(r:Rk)(vc vl:Value)(w:World)(n life id:Int)(K:Nat)(h:RkAt w base g o cs r vc vl)(hs:r.ok K)(hK:K<=1000000-1)(hB:base<=w.heap.size)(hc1:1<=n)(hc2:n<=1048576)(hl1:1<=life)(hl2:life<=20)(hf:4<=fE r.rows):Calls prog 75 #[.pointer (some ⟨g,o,none⟩),(⟨3,n,life,id⟩:Ordr).val] w (zBu base g o cs vc vl w (r.order ⟨3,n,life,id⟩)):=by
 unfold Ordr.val;dsimp only;obtain⟨wx,q0,q1,q2,q3,c0,c1,q0a,q1a,q2a,q3a,c0a,c1a,hf0,hu0,hh0,hh1,hf1,hu1,hlen,HX,HBX,HWX,HS,HK0,HLT⟩:=zAz h hs 3 n life id;clear h hs;have HF:=uT (show r.order ⟨3,n,life,id⟩=(r,0,8)by unfold Rk.order;rw[zBn hc1 hc2];simp[dG,show ¬ (life<1\/20<life)by omega,hf])
 have HOP:=uT (zHz base g o cs r vc vl wx K HX.s HS.s (by omega));have l1:decide (life<1)=false:=decide_eq_false (by omega);have l2:decide (20<life)=false:=decide_eq_false (by omega);have HWY:=HWX;obtain⟨m,hm⟩:=kB (fE r.rows);rw[<-hm]at HOP hf;clear hm;have hf':(4:Int)<=(m:Int):=by omega
 have hd1:decide (n<1)=false:=decide_eq_false (by omega);have hd2:decide (1048576<n)=false:=decide_eq_false (by omega);go_enter func75,ntmps75;go_wp2_with fail;rw[<-HWX.s];refine HOP.s.mono ?_;rintro _ _ ⟨rfl,rfl⟩;go_wp2_with fail;go_ret2;rw[HF.s];exact zAk HX.s HBX.s
theorem yDf(base g o:Nat)(cs:Array Value)(r:Rk)(vc vl:Value)(w:World)(n life id:Int)(K:Nat)(h:RkAt w base g o cs r vc vl)(hs:r.ok K)(hK:K<=1000000-1)(hB:base<=w.heap.size)(hc1:1<=n)(hc2:n<=1048576)(hl1:1<=life)(hl2:life<=20)(hf:fE r.rows<4)(hls:r.free<n):Calls prog 75 #[.pointer (some ⟨g,o,none⟩),(⟨3,n,life,id⟩:Ordr).val] w (zBu base g o cs vc vl w (r.order ⟨3,n,life,id⟩)):=by
 unfold Ordr.val;dsimp only;obtain⟨wx,q0,q1,q2,q3,c0,c1,q0a,q1a,q2a,q3a,c0a,c1a,hf0,hu0,hh0,hh1,hf1,hu1,hlen,HX,HBX,HWX,HS,HK0,HLT⟩:=zAz h hs 3 n life id;clear h hs;have HF:=uT (show r.order ⟨3,n,life,id⟩=(r,0,9)by unfold Rk.order;rw[zBn hc1 hc2];simp[dG,show ¬ (life<1\/20<life)by omega,show ¬ 4<=fE r.rows by omega,hls])
 have HOP:=uT (zHz base g o cs r vc vl wx K HX.s HS.s (by omega));have l1:decide (life<1)=false:=decide_eq_false (by omega);have l2:decide (20<life)=false:=decide_eq_false (by omega);obtain⟨m,hm⟩:=kB (fE r.rows);rw[<-hm]at HOP hf;clear hm;have hf':(m:Int)<4:=by omega
 have hd1:decide (n<1)=false:=decide_eq_false (by omega);have hd2:decide (1048576<n)=false:=decide_eq_false (by omega);go_enter func75,ntmps75;go_wp2_with fail;rw[<-HWX.s];refine HOP.s.mono ?_;rintro _ _ ⟨rfl,rfl⟩;go_wp2_with fail;go_quiet (fail);go_wp2_with fail;go_ret2;rw[HF.s];exact zAk (HX.s.calm (below_drewN (qC _ _) nq)) (below_drewN HBX.s nq)
theorem rack3_ok(base g o:Nat)(cs:Array Value)(r:Rk)(vc vl:Value)(w:World)(n life id:Int)(K:Nat)(h:RkAt w base g o cs r vc vl)(hs:r.ok K)(hK:K<=1000000-1)(hB:base<=w.heap.size)(hc1:1<=n)(hc2:n<=1048576)(hl1:1<=life)(hl2:life<=20)(hf:fE r.rows<4)(hls:n<=r.free):Calls prog 75 #[.pointer (some ⟨g,o,none⟩),(⟨3,n,life,id⟩:Ordr).val] w (zBu base g o cs vc vl w (r.order ⟨3,n,life,id⟩)):=by
 unfold Ordr.val;dsimp only;obtain⟨wx,q0,q1,q2,q3,c0,c1,q0a,q1a,q2a,q3a,c0a,c1a,hf0,hu0,hh0,hh1,hf1,hu1,hlen,HX,HBX,HWX,HS,HK0,HLT⟩:=zAz h hs 3 n life id;clear h hs;have HF:=uT (show r.order ⟨3,n,life,id⟩=(⟨r.free-n,r.used,r.rows++[(n,life)]⟩,((r.rows.length+1:Nat):Int),0)by unfold Rk.order;rw[zBn hc1 hc2];simp[dG,show ¬ (life<1\/20<life)by omega,show ¬ 4<=fE r.rows by omega,show ¬ r.free<n by omega])
 have HOP:=uT (zHz base g o cs r vc vl wx K HX.s HS.s (by omega));have l1:decide (life<1)=false:=decide_eq_false (by omega);have l2:decide (20<life)=false:=decide_eq_false (by omega);obtain⟨m,hm⟩:=kB (fE r.rows);rw[<-hm]at HOP hf;clear hm;have hf':(m:Int)<4:=by omega
 have hd1:decide (n<1)=false:=decide_eq_false (by omega);have hd2:decide (1048576<n)=false:=decide_eq_false (by omega);go_enter func75,ntmps75;go_wp2_with fail;rw[<-HWX.s];refine HOP.s.mono ?_;rintro _ _ ⟨rfl,rfl⟩;go_wp2_with fail;go_quiet (fail);go_wp2_with fail;clear q0a q1a q2a q3a c0a c1a;have f0:wx.frozen? ⟨g,o,none⟩=false:=HX.s.fr o;refine bV 9 (by kernel_rfl) (by kernel_rfl) ?_;simp only[qX,jE,qZ,jL]
 repeat(go_big_quiet_step (fail))
 refine qF ?_;rintro _ ⟨nq2,rfl⟩;go_wp2_with fail;obtain⟨w2,hw2⟩:=kB (((wx.drewN nq).drewN nq2).setCell ⟨g,o,none⟩ (.int .i64 (r.free-n)));have hx2:=RkAt.free_ (HX.s.calm (below_drewN (below_drewN (qC _ _) nq) nq2)) (r.free-n);rw[<-hw2]at hx2;have hO2:Only (λk=>k=g) wx w2:=by rw[hw2];exact bJ (((Only.refl _ wx).drewN nq).drewN nq2) _ _
 have k2:=HK0.s.only hO2 (λe=>by have:=HLT.s g (.inl rfl);omega);obtain⟨A2,cA2,hvc,_,_⟩:=hx2.cnt;obtain⟨A3,cA3,hvl,_,_⟩:=hx2.lft;dsimp only at hvc hvl;subst hvc hvl;obtain⟨len,hlen2⟩:=kB r.rows.length;have HLEN:=uT hlen2;have hraw:=hx2.raw;have p1:=λn:Ext w2=>n.cell (k2.cell 1)
 have p2:=k2.cell 2;have d2:=hx2.c2;rw[<-hlen2]at d2 hlen;have dd2:=λn:Ext w2=>n.cell d2
 obtain⟨HRW,HO2,HK2⟩:=uJ hraw hO2 k2
 first|rw[<-hw2]|(rw[World.drewN_drewN]at hw2;rw[<-hw2])
 obtain⟨i0,hi,hz0,hz1,hz2⟩:=yHm;have hMb:(len+1)*8<=140737488355328:=by omega
 have hB4:base<=w2.heap.size:=qN hB (qN HBX.s.size hO2.size);obtain⟨HLC,HLL⟩:=uI (show(r.rows.map cntV).length=len by rw[qQ,hlen2]) (show(r.rows.map lftV).length=len by rw[qQ,hlen2]);clear hx2 hO2 k2 hw2 c0 c1 q0 q1 q2 q3 f0 d2 hraw hlen2 p2;refine bO [0] [1,2,3,4,5,6] [] [7] 8 [9,10,11] (by kernel_rfl) (by kernel_rfl) (by intro c a d v w h;cases d<;>exact h) ?_;simp only[bB,qJ,qO,qD,qE]
 repeat(go_big_quiet_step (fail))
 refine qF ?_
 repeat(go_big_quiet_step (fail))
 refine qF (qF ?_);rintro _ ⟨nq4,rfl⟩;simp only[fJ];go_wp2_with fail;refine⟨⟨⟨_,nq4.h.alloc nq4.h.size _⟩,rfl⟩,?_⟩;have HY4:=uT (RkRaw.calm HRW.s nq4.h);have hy4:=nq4.h.size;go_wp2_with(first
  |(at_builtin;(refine bF _ rfl (.tmp 209) (.tmp 212) _ rfl base 3 i0 _ 1 8 underlying22 hi hz0 hz1 hz2 rfl (by omega) (by omega) _ _ _ HY4.s.oc (by rw[<-HLEN.s];rfl) _ 1 _ rfl rfl rfl (by simp[Value.oneCell']) (by rw[HLC.s];exact hMb) (qN hB4 hy4) ?_);rw[HLC.s];intro g4 cap4 w4 hg4 hown4 hbel4 hgr4 hat4;have hM4:=Blk.grown HY4.s.blk hgr4 (Ne.symm HY4.s.nc);have hu4:=hM4.at_ HY4.s.has 2 rfl;have hv4:=hM4.at_ HY4.s.has 2 rfl;have fu4:=hM4.frozen (o+2);have HK4:=uT (And.intro hg4 (And.intro hown4 (And.intro hgr4 hat4)));clear hg4 hown4 hbel4 hgr4 hat4 hM4))
 obtain⟨hg4,hown4,hgr4,hat4⟩:=HK4.s;have hr5:=RkRaw.pushC HY4.s hgr4 hat4 (by rw[HLC.s];exact hown4);rw[HLC.s]at hr5;obtain⟨w5,hw5⟩:=kB (w4.setCell ⟨g,o+2,none⟩ (.slice (some ⟨g4,0,none⟩) (len+1) cap4));rw[<-hw5]at hr5⊢;have hO5:Only (RkD g (.slice A2 r.rows.length cA2) (.slice A3 r.rows.length cA3)) w2 w5:=by rw[hw5];exact Only.setCell (((Only.refl _ w2).calm nq4.h).grown hgr4 λx hx _=> .inr (.inl hx)) (λ_=> .inl rfl) _
 have k5:=(HK2.s.below nq4.h HK2.s.lt).grown hgr4 (by intro e;have h1:=HLT.s w.heap.size (.inr (.inl e.symm));omega)
 have k6:Blk w5 w.heap.size 130 #[.int .i64 3,.int .i64 n,.int .i64 life,.int .i64 id]:=by rw[hw5];exact k5.far (p:=⟨g,o+2,none⟩) (λe=>by have h1:=HLT.s g (.inl rfl);have e':w.heap.size=g:=e;omega) _
 have e3:=hr5.blk.at_ hr5.has 3 rfl;rw[<-HLEN.s]at e3;have p5:=k6.cell 2;obtain⟨HR5,HO5⟩:=uI hr5 hO5;have ee3:=λn:Ext w5=>n.cell e3
 have pp5:=λn:Ext w5=>n.cell p5
 have hB6:base<=w5.heap.size:=qN hB4 hO5.size;clear hg4 hown4 hgr4 hat4 hr5 hO5 k5 k6 e3 p5 hw5 hu4 hv4 fu4 dd2 p1;refine bO [0] [1,2,3,4,5,6] [] [7] 8 [9,10,11] (by kernel_rfl) (by kernel_rfl) (by intro c a d v w h;cases d<;>exact h) ?_;simp only[bB,qJ,qO,qD,qE]
 repeat(go_big_quiet_step (fail))
 refine qF ?_
 repeat(go_big_quiet_step (fail))
 refine qF (qF ?_);rintro _ ⟨nq6,rfl⟩;simp only[fJ];go_wp2_with fail;refine⟨⟨⟨_,nq6.h.alloc nq6.h.size _⟩,rfl⟩,?_⟩;have HY6:=uT (RkRaw.calm HR5.s nq6.h);have hy6:=nq6.h.size;go_wp2_with(first
  |(at_builtin;(refine bF _ rfl (.tmp 220) (.tmp 223) _ rfl base 3 i0 _ 1 8 underlying22 hi hz0 hz1 hz2 rfl (by omega) (by omega) _ _ _ HY6.s.ol (by rw[<-HLEN.s];rfl) _ 1 _ rfl rfl rfl (by simp[Value.oneCell']) (by rw[HLL.s];exact hMb) (qN hB6 hy6) ?_);rw[HLL.s];intro g6 cap6 w6 hg6 hown6 hbel6 hgr6 hat6;have hM6:=Blk.grown HY6.s.blk hgr6 (Ne.symm HY6.s.nl);have hu6:=hM6.at_ HY6.s.has 3 rfl;have hv6:=hM6.at_ HY6.s.has 2 rfl;have fu6:=hM6.frozen (o+3);have HK6:=uT (And.intro hg6 (And.intro hown6 (And.intro hgr6 hat6)));clear hg6 hown6 hbel6 hgr6 hat6 hM6))
 obtain⟨hg6,hown6,hgr6,hat6⟩:=HK6.s;have hr7:=RkRaw.pushL HY6.s hgr6 hat6 (by rw[HLL.s];exact hown6);rw[HLL.s,zBm _ _ _ _ (by simp),zBm _ _ _ _ (by simp[Rk.cells])]at hr7;go_ret2;rw[HF.s];refine⟨.slice (some ⟨g4,0,none⟩) (len+1) cap4,.slice (some ⟨g6,0,none⟩) (len+1) cap6,by rw[<-HLEN.s];rfl,RkRaw.at (by simpa[cntV,lftV,Rk.cells]using hr7),?_,λk hk=> ?_⟩
 ·have h1:Only (RkD g (.slice A2 r.rows.length cA2) (.slice A3 r.rows.length cA3)) w wx:=Only.of_below HBX.s λx hx hB=>by omega
  exact Only.setCell (((((h1.trans HO2.s λx _ h=> .inl h).trans HO5.s λx _ h=>h).calm nq6.h).grown hgr6 λx hx _=> .inr (.inr hx))) (λ_=> .inl rfl) _
 ·obtain⟨_,_,_,hat4⟩:=HK4.s;have z1:=HBX.s.size;have z2:=HO2.s.size;have z3:=nq4.h.size;have z4:=HO5.s.size;have z5:=nq6.h.size;rcases hk with rfl|hk|hk
  ·exact .inl (.inl rfl)
  ·have hk':g4=k:=by simpa[Value.ownBlock]using hk
   subst hk';rcases hat4 with e|e
   ·exact .inl (.inr (.inl e.symm))
   ·right;omega
  ·have hk':g6=k:=by simpa[Value.ownBlock]using hk
   subst hk';rcases hat6 with e|e
   ·exact .inl (.inr (.inr e.symm))
   ·right;omega
theorem RkAt.left_{w:World}{base g o q k c:Nat}{cs:Array Value}{r:Rk}{vc:Value}{x:Int×Int}(h:RkAt w base g o cs r vc (.slice (some ⟨q,0,none⟩) r.rows.length c))(hx:r.rows[k]? =some x)(v:Int):RkAt (w.setCell ⟨q,k,none⟩ (.int .i64 v)) base g o cs {r with rows:=r.rows.set k (x.1,v)} vc (.slice (some ⟨q,0,none⟩) r.rows.length c):=by
 have hk:=(qK.1 hx).1;have e1:(r.rows.set k (x.1,v)).map cntV=r.rows.map cntV:=by
  apply List.ext_getElem?;intro i;rw[qV,qV,List.getElem?_set];by_cases hi:k=i
  ·subst hi;rw[if_pos rfl,if_pos hk,hx];rfl
  ·rw[if_neg hi]
 have e2:(r.rows.set k (x.1,v)).map lftV=(r.rows.map lftV).set k (.int .i64 v):=by rw[List.map_set];rfl
 have hst:=(h.ol.stored k (.int .i64 v)).1;refine⟨h.blk.far (p:=⟨q,k,none⟩) (λe=>h.nl (by rw[e];rfl)) _,h.has,?_,?_,h.ne⟩
 ·show World.ownsRow _ _ _ _ _ (r.rows.set k (x.1,v)).length ((r.rows.set k (x.1,v)).map cntV);rw[e1,List.length_set];refine jS h.oc (fV (World.grownBy.refl w (some q)) (.inl rfl) _) ?_
  right
  intro e;exact h.ne q e rfl
 ·show World.ownsRow _ _ _ _ _ (r.rows.set k (x.1,v)).length ((r.rows.set k (x.1,v)).map lftV);rw[e2,List.length_set];exact hst
theorem yFo(base g o:Nat)(cs:Array Value)(r:Rk)(vc vl:Value)(w:World)(kind n life id:Int)(K:Nat)(h:RkAt w base g o cs r vc vl)(hs:r.ok K)(hK:K<=1000000-1)(hB:base<=w.heap.size)(hkd:kind=4\/kind=5)(hid:id<1\/(r.rows.length:Int)<id):Calls prog 75 #[.pointer (some ⟨g,o,none⟩),(⟨kind,n,life,id⟩:Ordr).val] w (zBu base g o cs vc vl w (r.order ⟨kind,n,life,id⟩)):=by
 unfold Ordr.val;dsimp only;obtain⟨wx,q0,q1,q2,q3,c0,c1,q0a,q1a,q2a,q3a,c0a,c1a,hf0,hu0,hh0,hh1,hf1,hu1,hlen,HX,HBX,HWX,HS,HK0,HLT⟩:=zAz h hs kind n life id;clear h hs;have HF:=uT (show r.order ⟨kind,n,life,id⟩=(r,0,6)by unfold Rk.order;rcases hkd with rfl|rfl<;>simp[dG,hid])
 have hx2:=HX.s;obtain⟨A2,cA2,hvc,hcA,_⟩:=hx2.cnt;subst hvc;obtain⟨len,hlen2⟩:=kB r.rows.length;have c2:=hx2.c2;rw[<-hlen2]at c2 hid hlen;clear hx2 hlen2;rcases hkd with rfl|rfl
 all_goals
  by_cases h1:id<1
  all_goals
   first|have hd0:decide (id<1)=true:=decide_eq_true h1|(have hd0:decide (id<1)=false:=decide_eq_false h1;have h2:(len:Int)<id:=(by omega))
   clear hid;go_enter func75,ntmps75;go_wp2_with fail;rw[<-HWX.s];go_quiet (fail);go_wp2_with fail;go_ret2;rw[HF.s];exact zAk (HX.s.calm (below_drewN (qC _ _) nq)) (below_drewN HBX.s nq)
theorem rack_old(base g o:Nat)(cs:Array Value)(r:Rk)(vc vl:Value)(w:World)(kind n life:Int)(j:Nat)(x:Int×Int)(K:Nat)(h:RkAt w base g o cs r vc vl)(hs:r.ok K)(hK:K<=1000000-1)(hB:base<=w.heap.size)(hkd:kind=4\/kind=5)(hx:r.rows[j]? =some x)(hx0:x.2=0):Calls prog 75 #[.pointer (some ⟨g,o,none⟩),(⟨kind,n,life,(j:Int)+1⟩:Ordr).val] w (zBu base g o cs vc vl w (r.order ⟨kind,n,life,(j:Int)+1⟩)):=by
 unfold Ordr.val;dsimp only;obtain⟨wx,q0,q1,q2,q3,c0,c1,q0a,q1a,q2a,q3a,c0a,c1a,hf0,hu0,hh0,hh1,hf1,hu1,hlen,HX,HBX,HWX,HS,HK0,HLT⟩:=zAz h hs kind n life ((j:Int)+1);clear h hs;have HF:=uT (show r.order ⟨kind,n,life,(j:Int)+1⟩=(r,0,10)by
  have hk:=(qK.1 hx).1;have hn0:¬ ((j:Int)+1<1\/(r.rows.length:Int)<(j:Int)+1):=by omega
  unfold Rk.order;have e:((j:Int)+1).toNat-1=j:=by omega
  simp only[e,hx];rcases hkd with rfl|rfl
  all_goals
   simp[dG,hx0];omega)
 have hk:=(qK.1 hx).1;have hx2:=HX.s;obtain⟨A2,cA2,hvc,hcA,hcnt⟩:=hx2.cnt;obtain⟨A3,cA3,hvl,hcA3,hlft⟩:=hx2.lft;obtain⟨qc,hA2,dc,fc⟩:=hcnt j x hx;obtain⟨ql,hA3,dl,fl⟩:=hlft j x hx;subst hA2 hA3;subst hvc hvl;obtain⟨len,hlen2⟩:=kB r.rows.length;have c2:=hx2.c2;have c3:=hx2.c3;rw[<-hlen2]at c2 c3 hk hlen hcA hcA3;have hxb:=HS.s.rows x (qB hx);obtain⟨hxc0,hxc1,hxl0,hxl1⟩:=hxb;have hjl:(j:Int)<(len:Int):=by omega
 have hjl1:(j:Int)+1<=(len:Int):=by omega
 have hd0:decide ((j:Int)+1<1)=false:=decide_eq_false (by omega);have hd0':decide ((j:Int)<0)=false:=decide_eq_false (by omega);clear hx2 hlen2 hcnt hlft hx;rw[hx0]at dl;clear hx0;rcases hkd with rfl|rfl
 all_goals
  go_enter func75,ntmps75;go_wp2_with fail;rw[<-HWX.s];go_quiet (fail);go_wp2_with fail;go_quiet (fail);go_wp2_with fail;go_ret2;rw[HF.s];exact zAk (HX.s.calm (below_drewN (below_drewN (qC _ _) _) _)) (below_drewN (below_drewN HBX.s _) _)
theorem zSf(base g o:Nat)(cs:Array Value)(r:Rk)(vc vl:Value)(w:World)(kind n life:Int)(j:Nat)(x:Int×Int)(K:Nat)(h:RkAt w base g o cs r vc vl)(hs:r.ok K)(hK:K<=1000000-1)(hB:base<=w.heap.size)(v1 v2:Int)(hkd:kind=4/\v1=r.free/\v2=r.used+x.1\/kind=5/\v1=r.free+x.1/\v2=r.used)(hx:r.rows[j]? =some x)(hx0:0<x.2):Calls prog 75 #[.pointer (some ⟨g,o,none⟩),(⟨kind,n,life,(j:Int)+1⟩:Ordr).val] w (zBu base g o cs vc vl w (r.order ⟨kind,n,life,(j:Int)+1⟩)):=by
 unfold Ordr.val;dsimp only;obtain⟨wx,q0,q1,q2,q3,c0,c1,q0a,q1a,q2a,q3a,c0a,c1a,hf0,hu0,hh0,hh1,hf1,hu1,hlen,HX,HBX,HWX,HS,HK0,HLT⟩:=zAz h hs kind n life ((j:Int)+1);clear h hs;have HF:=uT (show r.order ⟨kind,n,life,(j:Int)+1⟩=(⟨v1,v2,r.rows.set j (x.1,0)⟩,0,0)by
  have hk:=(qK.1 hx).1;unfold Rk.order;have e:((j:Int)+1).toNat-1=j:=by omega
  simp only[e,hx];have h2:¬ x.2=0:=by omega
  have h3:¬ ((j:Int)+1<1\/(r.rows.length:Int)<(j:Int)+1):=by omega
  rcases hkd with⟨rfl,rfl,rfl⟩|⟨rfl,rfl,rfl⟩
  all_goals
   simp[dG,h2];omega)
 have hk:=(qK.1 hx).1;have hx2:=HX.s;obtain⟨A2,cA2,hvc,hcA,hcnt⟩:=hx2.cnt;obtain⟨A3,cA3,hvl,hcA3,hlft⟩:=hx2.lft;obtain⟨qc,hA2,dc,fc⟩:=hcnt j x hx;obtain⟨ql,hA3,dl,fl⟩:=hlft j x hx;subst hA2 hA3;subst hvc hvl;obtain⟨len,hlen2⟩:=kB r.rows.length;have HLEN:=uT hlen2;have c2:=hx2.c2;have c3:=hx2.c3;rw[<-hlen2]at c2 c3 hk hlen hcA hcA3;have hxb:=HS.s.rows x (qB hx);obtain⟨hxc0,hxc1,hxl0,hxl1⟩:=hxb;have HXR:=uT hx;have hjl:(j:Int)<(len:Int):=by omega
 have hjl1:(j:Int)+1<=(len:Int):=by omega
 have hd0:decide ((j:Int)+1<1)=false:=decide_eq_false (by omega);have hd0':decide ((j:Int)<0)=false:=decide_eq_false (by omega);clear hx2 hlen2 hcnt hlft hx;have hb0:(x.2==0)=false:=by simp;omega
 rcases hkd with⟨rfl,rfl,rfl⟩|⟨rfl,rfl,rfl⟩
 all_goals
  go_enter func75,ntmps75;go_wp2_with fail;rw[<-HWX.s];go_quiet (fail);obtain⟨na,rfl⟩:=kB nq;go_wp2_with fail;go_quiet (fail);go_wp2_with fail;clear q0a q1a q2a q3a c0a c1a;have hq3:¬ ql=w.heap.size:=by have:=HLT.s ql (.inr (.inr rfl));omega
  have hq3g:¬ ql=g:=λe=>HX.s.nl (by rw[e];rfl)
  have hq2:¬ qc=w.heap.size:=by have:=HLT.s qc (.inr (.inl rfl));omega
  refine bV 8 (by kernel_rfl) (by kernel_rfl) ?_;simp only[qX,jE,qZ,jL]
  repeat(go_big_quiet_step (fail))
  refine qF ?_;rintro _ ⟨nq2,rfl⟩;go_wp2_with fail;obtain⟨w2,hw2⟩:=kB ((((wx.drewN na).drewN nq).drewN nq2).setCell ⟨ql,j,none⟩ (.int .i64 0));have hx2:=RkAt.left_ (HX.s.calm (below_drewN (below_drewN (below_drewN (qC _ _) na) nq) nq2)) HXR.s 0;rw[<-hw2]at hx2;have hO2:Only (λk=>k=ql) wx w2:=by rw[hw2];exact bJ ((((Only.refl _ wx).drewN na).drewN nq).drewN nq2) _ _
  have k2:=HK0.s.only hO2 (λe=>by have:=HLT.s ql (.inr (.inr rfl));omega);have d1:=hx2.c1;have e1:=hx2.c0;have d2:=hx2.c2;have hqq:qc≠ql:=λe=>HX.s.ne qc rfl (by rw[e];rfl)
  have dc2:w2.cell? ⟨qc,j,none⟩=some (.int .i64 x.1):=by rw[hw2];exact(World.cell?_setCell_other _ ⟨ql,j,none⟩ ⟨qc,j,none⟩ _ λe=>hqq (by injection e with e;exact e.symm)).trans dc
  have f1:=hx2.fr (o+1);have g1:=hx2.fr o;have p0:=k2.cell 0;have p3:=k2.cell 3;rw[<-HLEN.s]at d2;obtain⟨HX2,HO2⟩:=uI hx2 hO2
  first|rw[<-hw2]|(simp only[World.drewN_drewN]at hw2;rw[<-hw2])
  dsimp only at d1 e1 d2 p0 p3;clear hx2 hO2 k2 hw2 c0 c1 q0 q1 q2 q3 dc dl fl fc c2 c3 hqq;go_wp2_with fail;refine bV 16 (by kernel_rfl) (by kernel_rfl) ?_;simp only[qX,jE,qZ,jL]
  repeat(go_big_quiet_step (fail))
  refine qF ?_;rintro _ ⟨nq3,rfl⟩;go_wp2_with fail;go_ret2;rw[HF.s]
  first|(have hfin:=RkAt.used_ (HX2.s.calm (below_drewN (qC _ _) nq3)) (r.used+x.1);refine⟨.slice (some ⟨qc,0,none⟩) r.rows.length cA2,.slice (some ⟨ql,0,none⟩) r.rows.length cA3,rfl,hfin,?_,λk hk=> .inl hk⟩)|(have hfin:=RkAt.free_ (HX2.s.calm (below_drewN (qC _ _) nq3)) (r.free+x.1);refine⟨.slice (some ⟨qc,0,none⟩) r.rows.length cA2,.slice (some ⟨ql,0,none⟩) r.rows.length cA3,rfl,hfin,?_,λk hk=> .inl hk⟩)
  have h1:Only (RkD g (.slice (some ⟨qc,0,none⟩) r.rows.length cA2) (.slice (some ⟨ql,0,none⟩) r.rows.length cA3)) w wx:=Only.of_below HBX.s λx hx hB=>by omega
  exact Only.setCell ((h1.trans HO2.s λx _ h=> .inr (.inr (by rw[h];rfl))).drewN nq3) (λ_=> .inl rfl) _
theorem zWo(a b:List (Int×Int)):gK (a++b)=gK a+gK b:=by
 induction a with
 |nil=>simp[gK]
 |cons x l ih=>obtain⟨c,t⟩:=x;rw[List.cons_append,gK,gK,ih];omega
theorem yBa(l:List (Int×Int))(k:Nat)(x:Int×Int)(h:l[k]? =some x):gK (l.take (k+1))=gK (l.take k)+(if x.2=1 then x.1 else 0):=by rw[dB l k x h,zWo];obtain⟨c,t⟩:=x;simp[gK]
theorem zVi{l:List (Int×Int)}(h:∀x∈l,0<=x.1/\x.1<=1048576/\0<=x.2/\x.2<=20):0<=gK l/\gK l<=cJ l:=by
 induction l with
 |nil=>simp[gK,cJ]
 |cons x l ih=>
  obtain⟨c,t⟩:=x;have h1:=h (c,t) (by simp);have h2:=ih (λy hy=>h y (by simp[hy]));dsimp only at h1;rw[gK,cJ]
  split<;>split<;>omega
theorem zKs{l:List (Int×Int)}(h:∀x∈l,0<=x.1/\x.1<=1048576/\0<=x.2/\x.2<=20)(k:Nat):0<=gK (l.take k)/\gK (l.take k)<=cJ l:=by
 have h1:=zVi (l:=l.take k) λx hx=>h x (List.mem_of_mem_take hx)
 have h2:=zIc h k;omega
def zAs(l:List (Int×Int))(k:Nat):List (Int×Int):=(l.take k).map zBo++l.drop k
theorem zZm(l:List (Int×Int)):zAs l 0=l:=by simp[zAs]
theorem yAh(l:List (Int×Int)):zAs l l.length=l.map zBo:=by simp[zAs]
theorem zPp(l:List (Int×Int))(k:Nat):(zAs l k).length=l.length:=by unfold zAs;rw[qM,qQ,<-qM,jW]
theorem zPg(l:List (Int×Int))(k:Nat)(hk:k<l.length):(zAs l k)[k]? =l[k]? :=by unfold zAs;rw[uG (by simp;omega),qQ,qY,Nat.min_eq_left (by omega),Nat.sub_self,List.getElem?_drop];rfl
theorem zKf(l:List (Int×Int))(k:Nat)(x:Int×Int)(hx:l[k]? =some x):(zAs l k).set k (zBo x)=zAs l (k+1):=by have hk:=(qK.1 hx).1;unfold zAs;rw[List.set_append_right _ _ (by simp;omega),qQ,qY,Nat.min_eq_left (by omega),Nat.sub_self,cZ l k x hx,List.set_cons_zero,dB l k x hx,jA];simp
theorem zXz(l:List (Int×Int))(k:Nat)(x:Int×Int)(hx:l[k]? =some x)(h:¬ 0<x.2):zAs l (k+1)=zAs l k:=by
 rw[<-zKf l k x hx];have:zBo x=x:=by unfold zBo;rw[if_neg h]
 rw[this];apply List.ext_getElem?;intro i;rw[List.getElem?_set];by_cases hi:k=i
 ·subst hi;have hk:=(qK.1 hx).1;rw[if_pos rfl,if_pos (by rw[zPp];exact hk),zPg _ _ hk,hx]
 ·rw[if_neg hi]
def gG(r:Rk)(k:Nat):Rk:=⟨r.free+gK (r.rows.take k),r.used,zAs r.rows k⟩
theorem rack7(base g o:Nat)(cs:Array Value)(r:Rk)(vc vl:Value)(w:World)(n life id:Int)(K:Nat)(h:RkAt w base g o cs r vc vl)(hs:r.ok K)(hK:K<=1000000-1)(hB:base<=w.heap.size):Calls prog 75 #[.pointer (some ⟨g,o,none⟩),(⟨7,n,life,id⟩:Ordr).val] w (zBu base g o cs vc vl w (r.order ⟨7,n,life,id⟩)):=by
 unfold Ordr.val;dsimp only;obtain⟨wx,q0,q1,q2,q3,c0,c1,q0a,q1a,q2a,q3a,c0a,c1a,hf0,hu0,hh0,hh1,hf1,hu1,hlen,HX,HBX,HWX,HS,HK0,HLT⟩:=zAz h hs 7 n life id;clear h hs;have HF:=uT (show r.order ⟨7,n,life,id⟩=(gG r r.rows.length,0,0)by unfold Rk.order gG;rw[yAh,List.take_length];simp[dG])
 have hx2:=HX.s;obtain⟨A2,cA2,hvc,hcA,_⟩:=hx2.cnt;obtain⟨A3,cA3,hvl,hcA3,_⟩:=hx2.lft;subst hvc hvl;obtain⟨len,hlen2⟩:=kB r.rows.length;have HLEN:=uT hlen2;have c3:=hx2.c3;have c3a:=c3;rw[<-hlen2]at c3 c3a hlen hcA hcA3;rw[HWX.s]at c3a;have hl9:len<=9223372036854775807:=by omega
 clear hx2 hlen2;go_enter func75,ntmps75;go_wp2_with fail;rw[<-HWX.s];clear q0 q1 q2 q3 q0a q1a q2a q3a c0a c1a c0 c1 c3 c3a
 go_loopw [52] (λi wr=>∃(k:Nat) (cs':Array Value),k<=len/\i= .int .i64 k/\uS (cs'=putAt cs o ((gG r k).cells (.slice A2 r.rows.length cA2) (.slice A3 r.rows.length cA3)))/\uS (RkAt wr base g o cs' (gG r k) (.slice A2 r.rows.length cA2) (.slice A3 r.rows.length cA3))/\uS (Only (RkD g (.slice A2 r.rows.length cA2) (.slice A3 r.rows.length cA3)) wx wr)) (λi _=>len-(intOf i).toNat)
 case atStart=>
  have e:gG r 0=r:=by unfold gG;rw[zZm];simp[gK]
  refine⟨0,cs,qL _,rfl,?_,?_,Only.refl _ _⟩
  ·show cs=_;rw[e];exact(zFw cs o _ HX.s.has).symm
  ·show RkAt _ _ _ _ _ _ _ _;rw[e];exact HX.s
 case round=>
  obtain⟨k,cs',hk,rfl,HCS,HXR,HOR⟩:=hrel;by_cases hlt:k<len
  ·have hkl:k<r.rows.length:=by rw[<-HLEN.s];exact hlt
   obtain⟨x,hx⟩:∃x,r.rows[k]? =some x:=⟨_,qI hkl⟩;have hget:(gG r k).rows[k]? =some x:=by show(zAs r.rows k)[k]? =some x;rw[zPg _ _ hkl];exact hx
   have hlenR:(gG r k).rows.length=r.rows.length:=zPp _ _;have hxr:=HXR.s;obtain⟨B2,dB2,hv2,_,hcnt⟩:=hxr.cnt;obtain⟨B3,dB3,hv3,_,hlft⟩:=hxr.lft;injection hv2 with hv2a hv2b hv2c;injection hv3 with hv3a hv3b hv3c;subst hv2a hv3a hv2c hv3c;clear hv2b hv3b;obtain⟨qc,hA2,dc,fc⟩:=hcnt k x hget;obtain⟨ql,hA3,dl,fl⟩:=hlft k x hget;subst hA2 hA3;have c0:=hxr.c0;have c2:=hxr.c2;have c3:=hxr.c3;rw[<-HLEN.s]at c2 c3;have f0:=hxr.fr o;have hxb:=HS.s.rows x (qB hx);obtain⟨hx0,hx1,hx2,hx3⟩:=hxb;have hov:=zKs HS.s.rows k;have hov1:=zKs HS.s.rows (k+1);have hall:=HS.s.all;have HOT:=uT (yBa r.rows k x hx);have hfr:(gG r k).free=r.free+gK (r.rows.take k):=rfl;have hfb:0<=(gG r k).free/\(gG r k).free<=1048576:=by rw[hfr];omega
   obtain⟨hfb0,hfb1⟩:=hfb;obtain⟨fk,hfk⟩:=kB ((gG r k).free);rw[<-hfk]at c0 hfb0 hfb1;have HFK:=uT hfk;have hki:(k:Int)<(len:Int):=by omega
   have hqg:¬ ql=g:=λe=>hxr.nl (by rw[e];rfl)
   have hqg':¬ g=ql:=λe=>hqg e.symm
   have hqq:¬ qc=ql:=λe=>hxr.ne qc rfl (by rw[e];rfl)
   obtain⟨HX1,HG1,HLR⟩:=uJ hx hget hlenR;have hD:∀y,y=g\/y=ql->RkD g (.slice (some ⟨qc,0,none⟩) r.rows.length cA2) (.slice (some ⟨ql,0,none⟩) r.rows.length cA3) y:=λy hy=>by
    rcases hy with rfl|rfl
    ·exact .inl rfl
    ·exact .inr (.inr rfl)
   have HD:=uT hD;clear hxr hcnt hlft hx hget hlenR hov hov1 hall hfr hfk hD;by_cases hz:x.2=0
   ·have hb1:(x.2==1)=false:=by simp;omega
    have hb2:¬ 0<x.2:=by omega
    have HN1:=uT (show gG r (k+1)=gG r k by unfold gG;rw[zXz r.rows k x HX1.s hb2,HOT.s,if_neg (by omega),Int.add_zero])
    rw[hz]at dl;clear hz hb1 hb2 HOT;go_wp2_with fail;go_roundw
    case rel=>
     refine⟨k+1,cs',by omega,by go_num,?_,?_,HOR⟩
     ·show _=putAt _ _ _;rw[HN1.s];exact HCS.s
     ·show RkAt _ _ _ _ _ _ _ _;rw[HN1.s];exact HXR.s
    case measure=>simp[intOf];omega
   by_cases h1:x.2=1
   ·have HN1:=uT (show gG r (k+1)=⟨fk+x.1,r.used,(zAs r.rows k).set k (x.1,0)⟩by unfold gG;rw[<-zKf r.rows k x HX1.s,HOT.s,if_pos h1,HFK.s];unfold gG zBo;rw[h1];simp[Int.add_assoc])
    rw[h1]at dl;clear h1 hz HOT;go_wp2_with fail;refine bV 14 (by kernel_rfl) (by kernel_rfl) ?_;simp only[qX,jE,qZ,jL]
    repeat(go_big_quiet_step (fail))
    refine qF ?_;rintro _ ⟨nq,rfl⟩;go_wp2_with fail;have hx5:=RkAt.free_ (RkAt.calm HXR.s (below_drewN (qC _ _) nq)) (fk+x.1);have hx6:=RkAt.left_ (r:=⟨fk+x.1,(gG r k).used,(gG r k).rows⟩) (k:=k) (x:=x) (q:=ql) (c:=cA3) (by have h:=hx5;rw[<-HLR.s]at h;exact h) HG1.s 0;obtain⟨HX6,HO6⟩:=uI hx6 (Only.setCell (p:=⟨ql,k,none⟩) (Only.setCell (p:=⟨g,o,none⟩) (HOR.s.drewN nq) (λ_=>HD.s _ (.inl rfl)) (.int .i64 (fk+x.1))) (λ_=>HD.s _ (.inr rfl)) (.int .i64 0));clear hx5 hx6;go_roundw
    case rel=>refine⟨k+1,putAt cs o ((gG r (k+1)).cells (.slice (some ⟨qc,0,none⟩) r.rows.length cA2) (.slice (some ⟨ql,0,none⟩) r.rows.length cA3)),by omega,by go_num,rfl,?_,HO6⟩;show RkAt _ _ _ _ _ _ _ _;rw[HN1.s];have h:=HX6.s;rw[HLR.s,HCS.s,zBm _ _ _ _ (by simp[Rk.cells])]at h;exact h
    case measure=>simp[intOf];omega
   ·have hb1:(x.2==1)=false:=by simpa using h1
    have h2:0<x.2:=by omega
    have HN1:=uT (show gG r (k+1)=⟨fk,r.used,(zAs r.rows k).set k (x.1,x.2-1)⟩by unfold gG;rw[<-zKf r.rows k x HX1.s,HOT.s,if_neg h1,HFK.s];unfold gG zBo;rw[if_pos h2];simp)
    clear h1 hz HOT;go_wp2_with fail;have hx6:=RkAt.left_ (k:=k) (x:=x) (q:=ql) (c:=cA3) (by have h:=HXR.s;rw[<-HLR.s]at h;exact h) HG1.s (x.2-1);obtain⟨HX6,HO6⟩:=uI hx6 (Only.setCell (p:=⟨ql,k,none⟩) HOR.s (λ_=>HD.s _ (.inr rfl)) (.int .i64 (x.2-1)));clear hx6;go_roundw
    case rel=>
     refine⟨k+1,cs',by omega,by go_num,?_,?_,HO6⟩
     ·show _=putAt _ _ _;rw[HN1.s,HCS.s];unfold Rk.cells;rw[<-HFK.s];rfl
     ·show RkAt _ _ _ _ _ _ _ _;rw[HN1.s];have h:=HX6.s;rw[HLR.s]at h;have e:(gG r k).free=fk:=HFK.s.symm;rw[e]at h;exact h
    case measure=>simp[intOf];omega
  ·obtain rfl:k=len:=by omega
   have HXF:=uT (show RkAt wr base g o (putAt cs o ((gG r r.rows.length).cells (.slice A2 r.rows.length cA2) (.slice A3 r.rows.length cA3))) (gG r r.rows.length) (.slice A2 r.rows.length cA2) (.slice A3 r.rows.length cA3)by have h:=HXR.s;rw[HCS.s,HLEN.s]at h;exact h)
   clear HXR HCS;go_wp2_with fail;go_ret2;rw[HF.s];refine⟨.slice A2 r.rows.length cA2,.slice A3 r.rows.length cA3,rfl,HXF.s,?_,λk hk=> .inl hk⟩;have h1:Only (RkD g (.slice A2 r.rows.length cA2) (.slice A3 r.rows.length cA3)) w wx:=Only.of_below HBX.s λx hx hB=>by omega
   exact h1.trans HOR.s (λx _ h=>h)
section
variable {P:Program}{Q:Exit->Act->World->Prop}{C:World->Prop}
def zYk(md:Region.Mode)(ops:Array Oper)(hd al:List Nat)(t:OT):Bool:=
 Region.noSelect ops&&decide (hd.length+t.depth=ops.size)&&t.even&&(List.range ops.size).all (λj=>(hd++al).contains j)&&hbBy md ops hd (Array.replicate ops.size false)&&t.ok md ops (fN (Array.replicate ops.size false) hd)
theorem zCn{id:Nat}{a:Act}{w:World}{l:List Oper}(hd al:List Nat)(t:OT)(hm:P.follows .mixedOrders=true)(hB:zYk .any l.toArray hd al t=true)(hQ:∀c a d v w,Q (.panic c) (a.put d v) w->Q (.panic c) a w)(hC:C w.drew)(h:wpQuiet P l.toArray C (λa'=>wpT P l Q C (hd++al) t a' w.drew) (bB l hd) a):(Code.region id l.toArray true).wp P Q a w:=by
 simp only[zYk,qT,decide_eq_true_eq,uE]at hB;obtain⟨⟨⟨⟨⟨hsel,hlen⟩,hev⟩,hcov⟩,hhb⟩,htree⟩:=hB;refine wp_region_any hm ?_
 suffices H2:wpAny P .any l.toArray Q (hd.length+t.depth) (Array.replicate l.toArray.size false) a {w with drawn:=w.drawn+1}by rw[hlen]at H2;exact H2
 refine zCc (C:=C) (cal:=hd++al) _ _ _ _ ?_;have hall:∀listed j,j∈Region.ready .any l.toArray listed->j∈hd++al:=λlisted j hj=>by obtain⟨_,oj,hoj,_⟩:=mem_ready.1 hj;have hjs:j<l.toArray.size:=(Array.getElem?_eq_some_iff.1 hoj).1;have:=hcov j (jZ.2 hjs);simpa using this
 refine zDk (C:=C) hsel hQ (λ_=>True) (λ_ _ _ _ _=>trivial) (λi _ listed j _ _ hj=>hall listed j hj) hC hd _ a trivial (λi hi=>by simp[hi]) hhb h ?_;intro a' _ h2;exact(zKc t t.depth _ a' _ (qA _) hev).2 htree h2
theorem fW{id:Nat}{a:Act}{w:World}{l:List Oper}(hd al:List Nat)(t:OT)(hm:P.follows .mixedOrders=true)(hB:zYk .any l.toArray hd al t=true)(hQ:∀c a d v w,Q (.panic c) (a.put d v) w->Q (.panic c) a w)(h:wpQuiet P l.toArray (λw'=>∃n:Ext w,w'=n.W) (λa'=>wpT P l Q (λw'=>∃n:Ext w,w'=n.W) (hd++al) t a' w.drew) (bB l hd) a):(Code.region id l.toArray true).wp P Q a w:=
 zCn hd al t hm hB hQ ⟨⟨w.drew,(qC _ w).drew⟩,rfl⟩ h
end
section
variable {P:Program}{Q:Exit->Act->World->Prop}{C:World->Prop}{md:Region.Mode}
def lnBy(md:Region.Mode)(ops:Array Oper):List Nat->Array Bool->Bool
 |[],_=>true
 |k::ln,listed=>decide (Region.ready md ops listed=[k])&&(ops[k]?).isSome&&lnBy md ops ln (listed.setIfInBounds k true)
theorem zVb{l:List Oper}{cal:List Nat}{g:Nat}{K:Act->World->Prop}:∀(ln:List Nat) (listed:Array Bool) (a:Act) (w:World),C w->lnBy md l.toArray ln listed=true->fJ P l.toArray Q C K (bB l ln) a w-> (∀a' w',C w'->K a' w'->wpS P md l.toArray Q C cal g (fN listed ln) a' w')->wpS P md l.toArray Q C cal (ln.length+g) listed a w
 |[],listed,a,w,hc,_,h,hK=>by rw[List.length_nil,Nat.zero_add];exact hK a w hc h
 |k::ln,listed,a,w,hc,hB,h,hK=>by
  simp only[lnBy,qT,decide_eq_true_eq]at hB;obtain⟨⟨hr,hsome⟩,hB'⟩:=hB;rw[jG,show ln.length+1+g=(ln.length+g)+1 by omega];refine⟨λh1=>(by rw[hr]at h1;cases h1),λi hi=> ?_⟩;rw[hr]at hi;have hik:i=k:=by simpa using hi
  subst hik;obtain⟨o,ho⟩:=Option.isSome_iff_exists.1 hsome;rw[zHu ln ho]at h;exact wpOp_mono (λa' w' h'=>⟨λ_=>h'.1,zVb ln _ a' w' h'.1 hB' h'.2 hK⟩) (zGv ho h)
def lineB(md:Region.Mode)(ops:Array Oper)(hd ln fl:List Nat):Bool:=
 Region.noSelect ops&&decide (hd.length+(ln.length+fl.length)=ops.size)&&(List.range ops.size).all (λj=>(hd++ln++fl).contains j)&&hbBy md ops hd (Array.replicate ops.size false)&&
  lnBy md ops ln (fN (Array.replicate ops.size false) hd)&&hbBy md ops fl (fN (fN (Array.replicate ops.size false) hd) ln)&&(Region.ready md ops (fN (fN (fN (Array.replicate ops.size false) hd) ln) fl)).isEmpty
theorem zTs{id:Nat}{a:Act}{w:World}{l:List Oper}(hd ln fl:List Nat)(hm:P.follows .mixedOrders=true)(hB:lineB .any l.toArray hd ln fl=true)(hQ:∀c a d v w,Q (.panic c) (a.put d v) w->Q (.panic c) a w)(hC:C w.drew)(h:wpQuiet P l.toArray C (λa'=>fJ P l.toArray Q C (λa2 w2=>wpQuiet P l.toArray C (λa3=>Q .normal a3 w2) (bB l fl) a2) (bB l ln) a' w.drew) (bB l hd) a):(Code.region id l.toArray true).wp P Q a w:=by
 simp only[lineB,qT,decide_eq_true_eq,uE]at hB;obtain⟨⟨⟨⟨⟨⟨hsel,hlen⟩,hcov⟩,hhd⟩,hln⟩,hfl⟩,hend⟩:=hB;refine wp_region_any hm ?_
 suffices H2:wpAny P .any l.toArray Q (hd.length+(ln.length+(fl.length+0))) (Array.replicate l.toArray.size false) a {w with drawn:=w.drawn+1}by rw[Nat.add_zero,hlen]at H2;exact H2
 refine zCc (C:=C) (cal:=hd++ln++fl) _ _ _ _ ?_;have hall:∀listed j,j∈Region.ready .any l.toArray listed->j∈hd++ln++fl:=λlisted j hj=>by obtain⟨_,oj,hoj,_⟩:=mem_ready.1 hj;have hjs:j<l.toArray.size:=(Array.getElem?_eq_some_iff.1 hoj).1;have:=hcov j (jZ.2 hjs);simpa using this
 refine zDk (C:=C) hsel hQ (λ_=>True) (λ_ _ _ _ _=>trivial) (λi _ listed j _ _ hj=>hall listed j hj) hC hd _ a trivial (λi hi=>by simp[hi]) hhd h ?_;intro a' _ h2;refine zVb ln _ a' _ hC hln h2 ?_;intro a2 w2 hc2 h3;refine zDk (C:=C) hsel hQ (λ_=>True) (λ_ _ _ _ _=>trivial) (λi _ listed j _ _ hj=>hall listed j hj) hc2 fl _ a2 trivial (λi hi=>by simp[hi]) hfl h3 ?_;intro a3 _ h4;exact⟨by simpa using hend,h4⟩
theorem gT{id:Nat}{a:Act}{w:World}{l:List Oper}(hd ln fl:List Nat)(hm:P.follows .mixedOrders=true)(hB:lineB .any l.toArray hd ln fl=true)(hQ:∀c a d v w,Q (.panic c) (a.put d v) w->Q (.panic c) a w)(h:wpQuiet P l.toArray (λw'=>∃n:Ext w,w'=n.W) (λa'=>fJ P l.toArray Q (λw'=>∃n:Ext w,w'=n.W) (λa2 w2=>wpQuiet P l.toArray (λw'=>∃n:Ext w,w'=n.W) (λa3=>Q .normal a3 w2) (bB l fl) a2) (bB l ln) a' w.drew) (bB l hd) a):(Code.region id l.toArray true).wp P Q a w:=
 zTs hd ln fl hm hB hQ ⟨⟨w.drew,(qC _ w).drew⟩,rfl⟩ h
end
theorem sameBytes_any(A A':Option Addr)(n c c':Nat)(zs:List Int)(B:Nat)(w:World)(hl:zs.length=n)(hm:n<=9223372036854775807)(hr:Reads w B 1 A n (zs.map (.int .u8)))(hr':Reads w B 1 A' n (zs.map (.int .u8))):Calls prog 48 #[.slice A n c,.slice A' n c'] w λe w'=>e= .returned (.bool true)/\∃nq,w.drewN nq=w':=by
 obtain⟨HR,HR'⟩:=uI hr hr';clear hr hr';clear hl;go_enter func48,ntmps48;go_wp2_with fail
 go_loopw [5] (λi wr=>∃k nq:Nat,k<=n/\i= .int .i64 k/\wr=w.drewN nq) (λi _=>n-(intOf i).toNat)
 case atStart=>exact⟨0,0,qL _,rfl,rfl⟩
 case round=>
  obtain⟨k,nq,hk,rfl,rfl⟩:=hrel;by_cases hlt:k<n
  ·obtain⟨b,o,z,rfl,hb,hz,hc⟩:=dQ HR.s hlt;obtain⟨b',o',z',rfl,hb',hz',hc'⟩:=dQ HR'.s hlt;obtain rfl:z=z':=by rw[hz]at hz';injection hz'
   have hkn:(k:Int)<(n:Int):=by omega
   clear hz hz' hb hb';go_wp2_with fail;go_quiet (fail);go_wp2_with fail;go_roundw
   case rel=>exact⟨k+1,_,by omega,by go_num,rfl⟩
   case measure=>simp[intOf];omega
  ·obtain rfl:k=n:=by omega
   go_wp2_with fail;go_ret;exact⟨rfl,nq,rfl⟩
theorem zXi(A A':Option Addr)(n c c':Nat)(zs:List Int)(B:Nat)(w:World)(hl:zs.length=n)(hm:n<=9223372036854775807)(hr:Reads w B 1 A n (zs.map (.int .i64)))(hr':Reads w B 1 A' n (zs.map (.int .i64))):Calls prog 12 #[.slice A n c,.slice A' n c'] w λe w'=>e= .returned (.bool true)/\∃nq,w.drewN nq=w':=by
 obtain⟨HR,HR'⟩:=uI hr hr';clear hr hr';clear hl;go_enter func12,ntmps12;go_wp2_with fail
 go_loopw [5] (λi wr=>∃k nq:Nat,k<=n/\i= .int .i64 k/\wr=w.drewN nq) (λi _=>n-(intOf i).toNat)
 case atStart=>exact⟨0,0,qL _,rfl,rfl⟩
 case round=>
  obtain⟨k,nq,hk,rfl,rfl⟩:=hrel;by_cases hlt:k<n
  ·obtain⟨b,o,z,rfl,hb,hz,hc⟩:=dQ HR.s hlt;obtain⟨b',o',z',rfl,hb',hz',hc'⟩:=dQ HR'.s hlt;obtain rfl:z=z':=by rw[hz]at hz';injection hz'
   have hkn:(k:Int)<(n:Int):=by omega
   clear hz hz' hb hb';go_wp2_with fail;go_quiet (fail);go_wp2_with fail;go_roundw
   case rel=>exact⟨k+1,_,by omega,by go_num,rfl⟩
   case measure=>simp[intOf];omega
  ·obtain rfl:k=n:=by omega
   go_wp2_with fail;go_ret;exact⟨rfl,nq,rfl⟩
end Go.Proofs.YtbolcebmbpepdaaGreatDoor
