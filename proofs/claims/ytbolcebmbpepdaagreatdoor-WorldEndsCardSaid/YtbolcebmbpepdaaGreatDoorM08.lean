/- Contracts. Conditions: those each states. -/
import Derived.Laws.CopyOwn
import Derived.Test.YtbolcebmbpepdaaGreatDoorM07
namespace Go.Proofs.YtbolcebmbpepdaaGreatDoor
set_option maxRecDepth 100000
set_option maxHeartbeats 8000000
set_option linter.all false
open Go.RowKit Tryz
theorem yGg(n:Nat)(hn:n<=32)(w:World):Calls prog 145 #[.int .u64 1,.int .u64 n] w λe w'=>e= .returned (.tuple #[.int .u64 0,.int .u64 n])/\w=w':=by
 have h1:bits .and .u64 (n:Int) 4294967295=n:=by rw[show(4294967295:Int)=((4294967295:Nat):Int)from rfl,u64_and_nat n 4294967295 (by omega) (by omega)];rw[show(4294967295:Nat)=2^32-1 from rfl,Nat.and_two_pow_sub_one_eq_mod,Nat.mod_eq_of_lt (by omega)]
 have h0:bits .and .u64 1 4294967295=1:=by rw[show(4294967295:Int)=((4294967295:Nat):Int)from rfl,show(1:Int)=((1:Nat):Int)from rfl,u64_and_nat 1 4294967295 (by omega) (by omega)];rw[show(4294967295:Nat)=2^32-1 from rfl,Nat.and_two_pow_sub_one_eq_mod,Nat.mod_eq_of_lt (by omega)]
 have h6:bits .and .u64 0 4294967295=0:=by rw[show(4294967295:Int)=((4294967295:Nat):Int)from rfl,show(0:Int)=((0:Nat):Int)from rfl,u64_and_nat 0 4294967295 (by omega) (by omega)];rw[show(4294967295:Nat)=2^32-1 from rfl,Nat.and_two_pow_sub_one_eq_mod,Nat.mod_eq_of_lt (by omega)]
 have h5:IntKind.u64.wrap (n:Int)=n:=by simp[IntKind.wrap,IntKind.bits,IntKind.signed];omega
 have h7:IntKind.u64.wrap 0=0:=by simp[IntKind.wrap,IntKind.bits,IntKind.signed]
 have h2:(n:Int)/2^32=0:=by omega
 have h3:(n:Int)/4294967296=0:=by omega
 have h4:n/4294967296=0:=by omega
 go_enter func145,ntmps145;go_wp2_with fail;go_ret2;exact⟨rfl,rfl⟩
theorem mul_one(n:Nat)(hn:n<=32)(w:World):Calls prog 132 #[.int .u64 1,.int .u64 n] w λe w'=>e= .returned (.tuple #[.int .u64 0,.int .u64 n])/\w=w':=by have H:=uT (yGg n hn w);go_enter func132,ntmps132;go_wp2_with fail;refine H.s.mono ?_;rintro _ _ ⟨rfl,rfl⟩;go_wp2_with fail;go_ret2;exact⟨rfl,rfl⟩
theorem zRv(v:Int)(n k m:Nat)(hk:k+m<=n):splice ((List.replicate k v++List.replicate (n-k) 0).map (Value.int .i64)) k ((List.replicate m v).map (Value.int .i64))=(List.replicate (k+m) v++List.replicate (n-(k+m)) 0).map (Value.int .i64):=by
 have e:splice (List.replicate k v++List.replicate (n-k) 0) k (List.replicate m v)=List.replicate (k+m) v++List.replicate (n-(k+m)) 0:=by
  unfold splice;have e1:(List.replicate k v++List.replicate (n-k) (0:Int)).take k=List.replicate k v:=by rw[uF (by simp),qS (by simp)]
  have e2:(List.replicate k v++List.replicate (n-k) (0:Int)).drop (k+(List.replicate m v).length)=List.replicate (n-(k+m)) 0:=by
   rw[jB,List.drop_append,jB,show k+m-k=m by omega,qW (by simp),List.nil_append,List.drop_replicate]
   congr 1
   omega
  rw[e1,e2,<-jK,List.replicate_append_replicate]
 rw[<-e];unfold splice;simp[List.map_drop]
def RowN(w:World)(G n:Nat)(v:Int)(k:Nat):Prop:=w.heap[G]? =some (.cells ((List.replicate k v++List.replicate (n-k) 0).map (Value.int .i64)).toArray 3 (0,0))
theorem RowN.cell{w:World}{G n:Nat}{v:Int}{k:Nat}(h:RowN w G n v k){j:Nat}(hj:j<k):w.cell? ⟨G,j,none⟩=some (.int .i64 v):=by
 have h2:IRow w G (List.replicate k v++List.replicate (n-k) 0) []:=by unfold IRow Blk;rw[jR];exact h
 refine h2.cell ?_;rw[List.getElem?_append_left (by simpa using hj),jV,if_pos hj]
theorem yDr{w:World}{G n:Nat}{v:Int}{k m:Nat}(h:RowN w G n v k)(hm:m<=k):∀(j:Nat) (u:Value),((List.replicate m v).map (Value.int .i64))[j]? =some u->w.cell? ((⟨G,0,none⟩:Addr).add j)=some u:=by
 intro j u hu;have hj:j<m:=by
  rcases Nat.lt_or_ge j m with h1|h1
  ·exact h1
  ·rw[qU (by simpa using h1)]at hu;cases hu
 have e:(⟨G,0,none⟩:Addr).add j=⟨G,j,none⟩:=by unfold Addr.add;split<;>simp_all
 rw[qV,jV,if_pos hj]at hu;injection hu with hu;rw[e,h.cell (by omega),<-hu]
theorem zLi(v:Int)(n g0 c0:Nat)(w:World)(h1:1<=n)(hn:n<=32)(hg:g0<w.heap.size)(hv:w.cell? ⟨g0,0,none⟩=some (.int .i64 v)):Calls prog 111 #[.slice (some ⟨g0,0,none⟩) 1 c0,.int .i64 n] w λe w'=>∃u,e= .returned u/\w'.ownsRow w.heap.size 3 1 u n ((List.replicate n v).map (.int .i64))/\uR w w':=by
 obtain⟨i0,hi,hz0,hz1,hz2⟩:=zHd;have hmk:=λW=>dN (P:=prog) 22 3 i0 _ underlying22 hi hz0 .i64 .i64 n n (qA _) (by rw[hz2];omega) (by omega) W
 rw[hz1]at hmk;have H:=uT (mul_one n hn w);have HROW:=uT (show RowN (w.alloc (.cells (madeCells #[.int .i64 0] (n*1)) 3)) w.heap.size n v 0 by
  unfold RowN;have e:((List.replicate 0 v++List.replicate (n-0) (0:Int)).map (Value.int .i64)).toArray=madeCells #[.int .i64 0] (n*1):=by rw[<-uD,toList_madeCells_one];simp
  rw[e];exact Blk.new w 3 _)
 obtain⟨HB0,HV⟩:=uI ((qC w.heap.size w).alloc (qA _) (.cells (madeCells #[.int .i64 0] (n*1)) 3)) (show(w.alloc (.cells (madeCells #[.int .i64 0] (n*1)) 3)).cell? ⟨g0,0,none⟩=some (.int .i64 v)from(World.cell?_alloc_lt w _ ⟨g0,0,none⟩ hg).trans hv);have hsz:(prog.info? 3).map (·.size)=some 1:=by kernel_rfl
 rw[Nat.mul_one]at hmk HROW HB0 HV;have HSZ:=uT hsz;clear hsz hv;go_enter func111,ntmps111;go_wp2_with fail;refine H.s.mono ?_;rintro _ _ ⟨rfl,rfl⟩;have HSRC:=uT (show∀(j:Nat) (u:Value),((List.replicate 1 v).map (Value.int .i64))[j]? =some u->(w.alloc (.cells (madeCells #[.int .i64 0] n) 3)).cell? ((⟨g0,0,none⟩:Addr).add j)=some u from λj u hu=>by
  cases j with
  |zero=>simp at hu;rw[<-hu];exact HV.s
  |succ j=>simp at hu)
 have hl1:((List.replicate 1 v).map (Value.int .i64)).length=Nat.min 1 n:=by rw[qQ,jB];exact(Nat.min_eq_left h1).symm
 have HL1:=uT hl1;have hl2:0+((List.replicate 1 v).map (Value.int .i64)).length<=((List.replicate 0 v++List.replicate (n-0) 0).map (Value.int .i64)).length:=by simp;omega
 obtain⟨HL2,HONE⟩:=uI hl2 (zFn .i64 (List.replicate 1 v));clear hl1 hl2;go_wp2_with(first
  |((refine wpList_copy_splice rfl (.tmp 31) (.tmp 32) 22 22 rfl 3 underlying22 HSZ.s (some ⟨w.heap.size,0,none⟩) (some ⟨g0,0,none⟩) n n 1 c0 rfl rfl w.heap.size 0 _ 3 HROW.s ((List.replicate 1 v).map (Value.int .i64)) HL1.s (λ_=>⟨rfl,_,rfl,HSRC.s⟩) HL2.s HONE.s w.heap.size w HB0.s (qA _) ?_);intro w4 hg4 hb4))
 have HR1:=uT (show RowN w4 w.heap.size n v 1 by have h:=hg4;have e:=zRv v n 0 1 (by omega);unfold RowN;rw[e]at h;exact h)
 have HB4:=uT hb4;clear hg4 hb4 HROW HB0 HV HSRC HL1 HL2 HONE hmk;generalize hG:w.heap.size=G at*;have HG:=uT hG;clear hG
 go_loopw [8] (λx wr=>∃(k:Nat),1<=k/\k<=n/\x= .int .i64 k/\uS (RowN wr G n v k)/\Below G w wr) (λx _=>n-(intOf x).toNat)
 case atStart=>exact⟨1,qA _,h1,rfl,HR1,HB4.s⟩
 case round=>
  obtain⟨k,hk1,hkn,rfl,HX,hb⟩:=hrel;by_cases hlt:k<n
  ·have hb1:(0:Int)<=(k:Int):=by omega
   have hb2:(k:Int)<=(n:Int):=by omega
   have HB:=uT hb;obtain⟨m,hm⟩:=kB (Nat.min k (n-k));have hm1:m<=k:=by rw[hm];exact Nat.min_le_left _ _
   have hm2:m<=n-k:=by rw[hm];exact Nat.min_le_right _ _
   have hm3:1<=m:=by rw[hm];exact Nat.le_min.2 ⟨hk1,by omega⟩
   obtain⟨HM,HFIT,HONE,HSRC⟩:=uK (show((List.replicate m v).map (Value.int .i64)).length=Nat.min k (n-k)by rw[qQ,jB];exact hm) (show k+((List.replicate m v).map (Value.int .i64)).length<=((List.replicate k v++List.replicate (n-k) 0).map (Value.int .i64)).length by simp;omega) (zFn .i64 (List.replicate m v)) (show∀(j:Nat) (u:Value),((List.replicate m v).map (Value.int .i64))[j]? =some u->wr.drew.cell? ((⟨G,0,none⟩:Addr).add j)=some u from yDr HX.s hm1);obtain⟨HPOS,HXD,HBD⟩:=uJ (show 0<((List.replicate m v).map (Value.int .i64)).length->(some ⟨G,k,none⟩:Option Addr)=some ⟨G,k,none⟩/\∃ad,(some ⟨G,0,none⟩:Option Addr)=some ad/\∀(j:Nat) (u:Value),((List.replicate m v).map (Value.int .i64))[j]? =some u->wr.drew.cell? (ad.add j)=some u from λ_=>⟨rfl,_,rfl,HSRC.s⟩) (show wr.drew.heap[G]? =some (.cells ((List.replicate k v++List.replicate (n-k) 0).map (Value.int .i64)).toArray 3 (0,0))by have h:=HX.s;unfold RowN at h;exact h) (show Below G w wr.drew from hb.drew);have hnk:¬ n=k:=by omega
   obtain⟨w5,HX5,HB5,hcp⟩:∃w5,uS (RowN w5 G n v (k+m))/\uS (Below G w w5)/\(Builtin.copy_ #[22,22] 3 #[.slice (some ⟨G,k,none⟩) (n-k) (n-k),.slice (some ⟨G,0,none⟩) k n]).run prog wr.drew= .ok (.int .i64 m) w5:=by have hrun:=run_copy_row (P:=prog) wr.drew 22 22 3 3 G k (n-k) (n-k) ⟨G,0,none⟩ k n ((List.replicate k v++List.replicate (n-k) 0).map (Value.int .i64)).toArray 3 ((List.replicate m v).map (Value.int .i64)) underlying22 HSZ.s HXD.s HM.s HSRC.s (by have h:=HFIT.s;simpa using h) HONE.s;rw[qQ,jB]at hrun;refine⟨_,uT ?_,uT (below_setRow HBD.s (qA _) _),hrun⟩;have h:=setRow_heap wr.drew G _ (((List.replicate k v++List.replicate (n-k) 0).map (Value.int .i64)).toArray.toList.take k++((List.replicate m v).map (Value.int .i64))++((List.replicate k v++List.replicate (n-k) 0).map (Value.int .i64)).toArray.toList.drop (k+m)).toArray 3 _ HXD.s;have e:=zRv v n k m (by omega);unfold splice at e;unfold RowN;rw[qQ,jB]at e;rw[<-e,<-jK];exact h
   have hkm:IntKind.i64.wrap ((k:Int)+(m:Int))=((k+m:Nat):Int):=by simp[IntKind.wrap,IntKind.bits,IntKind.signed];omega
   have hkm2:IntKind.i64.wrap ((m:Int)+(k:Int))=((k+m:Nat):Int):=by simp[IntKind.wrap,IntKind.bits,IntKind.signed];omega
   clear hb hm HM HFIT HONE HSRC HPOS HXD HBD;go_wp2_with fail
   go_region
   all_goals
    go_roundw
    case rel=>exact⟨_,_,_,_,_,_,_,_,_,_,_,_,_,_,⟨k+m,by omega,by omega,by simp,HX5,HB5.s⟩,rfl⟩
    case measure=>simp[intOf];omega
  ·obtain rfl:k=n:=by omega
   have HB:=uT hb;go_wp2_with fail;go_ret;refine⟨_,rfl,?_,by have h:=HB.s;rw[<-HG.s]at h;exact h⟩;have h2:IRow wr G (List.replicate k v) []:=by have h:=HX.s;unfold RowN at h;unfold IRow Blk;rw[jR];simpa using h
   rw[HG.s];exact h2.own (qA _) (by simp) (by simp) (by unfold maxLen;omega)
def treeB1:OT:= .next 9 (.next 15 (.next 16 (.next 17 (.fork (.next 18 (.fork (.next 19 (.next 20 (.next 21 (.next 22 .done)))) (.next 20 (.fork (.next 19 (.next 21 (.next 22 .done))) (.next 21 (.fork (.next 19 (.next 22 .done)) (.next 22 (.next 19 .done)))))))) (.next 19 (.next 18 (.next 20 (.next 21 (.next 22 .done)))))))))
def BkRound(w:World)(base nb:Nat)(p:BkL)(most ticks:Int)(r:BkS×(List Int×Int))(e:Ending)(w':World):Prop:=
 ∃(p':BkL) (A:Option Addr) (c:Nat),e= .returned (.tuple #[.slice A nb c,.int .i64 r.2.2])/\w'.ownsRow w.heap.size 3 1 (.slice A nb c) nb (r.2.1.map (.int .i64))/\BkAt w' base nb p' most ticks r.1/\
  p'.g=p.g/\p'.gw=p.gw/\p'.gg=p.gg/\(p'.gq=p.gq\/w.heap.size<=p'.gq)/\Only p.has w w'/\(∀q,(Value.slice A nb c).ownBlock=some q->¬ p'.has q)
def CutB(w:World)(base nb:Nat)(p:BkL)(most ticks:Int)(s:BkS)(W:World):Prop:=
 ∃gq cq T,w.heap.size<=gq/\BkAt W base nb ⟨p.g,p.gw,p.gg,gq,cq,T⟩ most ticks s/\Only p.has w W
theorem bk_fresh{w wx W:World}{base nb:Nat}{p:BkL}{most ticks:Int}{s:BkS}{v:Value}{q:List Int}(h:BkAt wx base nb p most ticks s)(hb:uR w wx)(hB:base<=w.heap.size)(hbW:uR wx W)(hq:W.ownsRow wx.heap.size 3 1 v nb (q.map (.int .i64)))(hnb:1<=nb):CutB w base nb p most ticks {s with quota:=q} (W.setCell ⟨p.g,7,none⟩ v):=by
 obtain⟨gq,cq,T,rfl,hg,hgl,hc,hcm,hT,hI⟩:=zZh hq hnb;have hl:=λk hk=>h.lt k hk
 have hW:=h.calm hbW;have hsz:=hb.size;have n1:=hl p.g (.inl rfl);have n2:=hl p.gw (.inr (.inl rfl));have n3:=hl p.gg (.inr (.inr (.inl rfl)));refine⟨gq,cq,T,by omega,⟨hW.blk.set_ 7 _,Blk.far hW.rw_ (Ne.symm h.ng.1) _,Blk.far hW.rg (Ne.symm h.ng.2.1) _,Blk.far hI (by dsimp only;omega) _,⟨hT,hcm⟩,⟨h.low.1,h.low.2.1,h.low.2.2.1,by dsimp only;omega⟩,⟨h.ne.1,by dsimp only;omega,by dsimp only;omega⟩⟩,?_⟩;exact Only.setCell (Only.of_below (hb.trans (hbW.mono hsz)) λx h1 h2=>by omega) (λ_=> .inl rfl) _
theorem yCc{w:World}{base nb:Nat}{p:BkL}{most ticks:Int}{s:BkS}{i:Nat}(h:BkAt w base nb p most ticks s)(hg:i<s.granted.length)(hq:i<s.quota.length)(x y z:Int)(hx:x=s.granted.getD i 0+s.due i)(hy:y=s.quota.getD i 0-s.due i)(hz:z=s.reserve-s.due i):BkAt (((w.setCell ⟨p.gg,i,none⟩ (.int .i64 x)).setCell ⟨p.gq,i,none⟩ (.int .i64 y)).setCell ⟨p.g,3,none⟩ (.int .i64 z)) base nb p most ticks (zEq s i):=by
 subst hx hy hz;refine⟨?_,?_,?_,?_,h.cap,h.low,h.ne⟩
 ·exact((h.blk.far h.ng.2.1 _).far h.ng.2.2 _).set_ 3 _
 ·exact Blk.far (Blk.far (Blk.far h.rw_ h.ne.1 _) h.ne.2.1 _) (Ne.symm h.ng.1) _
 ·exact Blk.far (Blk.far (h.rg.set_ hg _) h.ne.2.2 _) (Ne.symm h.ng.2.1) _
 ·have h1:IRow (w.setCell ⟨p.gg,i,none⟩ (.int .i64 (s.granted.getD i 0+s.due i))) p.gq s.quota p.T:=Blk.far h.rq (Ne.symm h.ne.2.2) _;exact Blk.far (h1.set_ hq _) (Ne.symm h.ng.2.2) _
theorem zWm(base nb:Nat)(p:BkL)(most ticks:Int)(s:BkS)(w:World)(K:Int)(h:BkAt w base nb p most ticks s)(ho:s.ok nb K)(hK:K<=1000000)(hnb:1<=nb/\nb<=8)(hm:0<=most/\most<=1048576)(ht:1<=ticks/\ticks<=8)(hB:base<=w.heap.size):Calls prog 82 #[.pointer (some ⟨p.g,0,none⟩)] w (BkRound w base nb p most ticks (fR most ticks s)):=by
 obtain⟨g,gw,gg,gq0,cq0,T0⟩:=p;dsimp only;have c0:w.cell? ⟨g,0,none⟩=some (.int .i64 most):=h.blk.cell 0;have c1:w.cell? ⟨g,1,none⟩=some (.int .i64 ticks):=h.blk.cell 1;have c2:w.cell? ⟨g,2,none⟩=some (.int .i64 s.round):=h.blk.cell 2;have c3:w.cell? ⟨g,3,none⟩=some (.int .i64 s.reserve):=h.blk.cell 3;have hrd:=ho.rd;have hres:=ho.res;obtain⟨HX,HO⟩:=uI h ho;have htm:Int.tmod s.round ticks=s.round%ticks:=Int.tmod_eq_emod_of_nonneg hrd.1;have htz:(ticks==0)=false:=by simp;omega
 clear h ho;have HBL:=uT (show s.wants.length=nb from HO.s.lw);by_cases hep:s.round%ticks=0
 ·have HF:=uT (show fR most ticks s=(rnd {zEt most s with round:=s.round+1} nb,(rnd {zEt most s with round:=s.round+1} nb).granted,s.reserve)by unfold fR;simp only[if_pos hep];rw[HBL.s]);have hep':(s.round%ticks==0)=true:=by simpa using hep
  clear hep;go_enter func82,ntmps82;go_wp2_with fail;go_quiet (fail);go_wp2_with fail;obtain⟨wx,hwx⟩:=kB (w.drewN nq);have HBX:=uT (show uR w wx by rw[hwx];exact below_drewN (qC _ _) _);rw[<-hwx];have HXx:=uT (HX.s.calm HBX.s);have e0:=λn:Ext wx=>n.cell (show wx.cell? ⟨g,0,none⟩=some (.int .i64 most)from HXx.s.blk.cell 0)
  have e3:=λn:Ext wx=>n.cell (show wx.cell? ⟨g,3,none⟩=some (.int .i64 s.reserve)from HXx.s.blk.cell 3)
  have e5:=λn:Ext wx=>n.cell (show wx.cell? ⟨g,5,none⟩=some (.slice (some ⟨gw,0,none⟩) nb nb)from HXx.s.blk.cell 5)
  have hnbi:(nb:Int)<=8:=by omega
  clear hwx c0 c1 c2 c3 htm htz
  go_cut [22] (λs22 W=>uS (CutB w base nb ⟨g,gw,gg,gq0,cq0,T0⟩ most ticks (zEt most s) W))
  case first=>
   refine zLs [0] [1,2,3,4,5,6,7,8,10,11,12,13,14] [9,15,16,17] [18,19,20,21,22] treeB1 (by kernel_rfl) (by kernel_rfl) (by intro c a d v w h;cases d<;>exact h) ?_;simp only[bB,qJ,qO,qD,qE]
   repeat(go_big_quiet_step (fail))
   refine qF ?_
   repeat(go_big_quiet_step (fail))
   refine qF ?_;unfold treeB1;obtain⟨wd,hwd⟩:=kB wx.drew;have hd0:uR wx wd:=by rw[hwd];exact(qC _ _).drew
   rw[<-hwd];obtain⟨w2,hw2⟩:=kB (wd.alloc (.cells #[.int .i64 most] 3));have hd2:uR wx w2:=by rw[hw2];exact hd0.alloc hd0.size _
   have k2:Blk w2 wd.heap.size 3 #[.int .i64 most]:=by rw[hw2];exact Blk.new wd 3 _
   obtain⟨HRE,HD2⟩:=uI (zLi most nb wd.heap.size 1 w2 hnb.1 (by omega) k2.lt (k2.cell 0)) hd2;have hs2:=hd2.size;have HW2:=uT hw2;clear hwd hd0 hd2 k2 hw2 e0 e3 e5;refine bP λK0 hK0=> ?_
   simp only[bB,qJ,qO,qD,qE];go_wp2_with fail;rw[<-HW2.s];refine hK0 _ _ (λ_=>⟨⟨_,HD2.s⟩,rfl⟩) ?_;clear hK0 K0;refine bP λK0 hK0=> ?_
   simp only[bB,qJ,qO,qD,qE];go_wp2_with fail;refine HRE.s.mono ?_;rintro _ w3 ⟨u3,rfl,ho3,hb3⟩;have HD3:=uT (HD2.s.trans (hb3.mono hs2));obtain⟨A3,c3,rfl,_⟩:=bE ho3;have hcap:=fH ho3;have HSP:=uT (yHp A3 nb c3 (List.replicate nb most) s.reserve w3.heap.size w3 (by simp) hcap.2.1 hcap.2.2 (by omega) (Reads.of_own ho3) (qA _));rw[zRh s.reserve most nb (by omega) hm hnb.2]at HSP;have hs3:=hb3.size;clear ho3 hb3 hcap;go_wp2_with fail;refine hK0 _ _ (λ_=>⟨⟨_,HD3.s⟩,rfl⟩) ?_;clear hK0 K0;refine bP λK0 hK0=> ?_
   simp only[bB,qJ,qO,qD,qE];go_wp2_with fail;refine HSP.s.mono ?_;rintro _ w4 ⟨v4,rfl,ho4,hb4⟩;obtain⟨g1,g2,g3⟩:=zFf s.reserve (List.replicate nb most) hres.1 (λw hw=>by have:=jT hw;omega);rw[jB]at g1;dsimp only at ho4;rw[g1]at ho4;obtain⟨A4,c4,rfl,_⟩:=bE ho4;have HD4:=uT (HD3.s.trans (hb4.mono (by omega)));have hcut:=bk_fresh HXx.s HBX.s hB HD4.s (dU ho4 (show wx.heap.size<=w3.heap.size by omega)) hnb.1;have HCUT:=uT (show CutB w base nb ⟨g,gw,gg,gq0,cq0,T0⟩ most ticks (zEt most s) (w4.setCell ⟨g,7,none⟩ (.slice A4 nb c4))by unfold zEt;rw[HBL.s];exact hcut);have k4:=(HXx.s.calm HD4.s).blk;have y7:w4.cell? ⟨g,7,none⟩=some (.slice (some ⟨gq0,0,none⟩) nb cq0):=k4.cell 7;have y7f:w4.frozen? ⟨g,7,none⟩=false:=k4.frozen 7;clear ho4 hb4 g1 g2 g3 hcut k4;go_wp2_with fail;refine hK0 _ _ (λ_=>⟨⟨_,HD4.s⟩,rfl⟩) ?_;clear hK0 K0;refine bP λK0 hK0=> ?_
   simp only[bB,qJ,qO,qD,qE];go_wp2_with fail;refine hK0 _ _ (λ_=>⟨⟨_,HD4.s⟩,rfl⟩) ?_;clear hK0 K0
   repeat' first
    |(refine zAx ?_ ?_)
    |(refine bP λK0 hK0=> ?_
      simp only[bB,qJ,qO,qD,qE];go_wp2_with fail;refine hK0 _ _ (λh=>absurd h (by decide)) ?_;clear hK0 K0)
    |(refine gV ?_
      go_wp2_with fail;go_meet;exact HCUT)
  case rest=>
   obtain⟨gq,cq,T,hgq,hXc,hOc⟩:=hcut.s;dsimp only at hXc;have HGQ:=uT (show gq=gq0\/w.heap.size<=gq from .inr hgq);obtain⟨s1,hs1⟩:=kB (zEt most s);have ho1:s1.ok nb K:=by rw[hs1];exact zMa HO.s hm
   have hr1:s1.round=s.round:=by rw[hs1];rfl
   rw[<-hs1]at hXc HF;obtain⟨rep,hrep⟩:∃rep:Int,rep=s.reserve:=⟨_,rfl⟩;rw[<-hrep]at HF;obtain⟨HXC,HOC,HO1,HR1⟩:=uK hXc hOc ho1 hr1;clear hgq hXc hOc hs1 ho1 hr1 hcut;go_upto_region 5 with fail;rw[<-hrep];clear hrep;have d2:wc.cell? ⟨g,2,none⟩=some (.int .i64 s1.round):=HXC.s.blk.cell 2;have d2f:wc.frozen? ⟨g,2,none⟩=false:=HXC.s.blk.frozen 2;have hr1:=HR1.s;have hr2:0<=s1.round/\s1.round<=1000000:=by omega
   clear hr1;go_upto_region 6 with fail;obtain⟨w5,hw5⟩:=kB (wc.setCell ⟨g,2,none⟩ (.int .i64 (s1.round+1)));obtain⟨s2,hs2⟩:=kB ({s1 with round:=s.round+1});have HX5:=uT (show BkAt w5 base nb ⟨g,gw,gg,gq,cq,T⟩ most ticks s2 by have h:=HXC.s;rw[hw5,hs2,<-HR1.s];exact⟨h.blk.set_ 2 _,Blk.far h.rw_ (Ne.symm h.ng.1) _,Blk.far h.rg (Ne.symm h.ng.2.1) _,Blk.far h.rq (Ne.symm h.ng.2.2) _,h.cap,h.low,h.ne⟩)
   have HO5:=uT (show Only (BkL.has ⟨g,gw,gg,gq0,cq0,T0⟩) w w5 by rw[hw5];exact Only.setCell HOC.s (λ_=> .inl rfl) _);have HS2:=uT (show s2.ok nb (K+1)by have t:=HO1.s;rw[hs2];exact⟨t.lw,t.lg,t.lq,(show 0<=s.round+1/\s.round+1<=K+1 by omega),t.res,t.w,t.g,t.gw,t.q,t.qs⟩)
   rw[<-hs2]at HF;rw[<-hw5];have d5:w5.cell? ⟨g,5,none⟩=some (.slice (some ⟨gw,0,none⟩) nb nb):=HX5.s.blk.cell 5;have hnbi:(nb:Int)<=8:=by omega
   clear hw5 hs2 d2 d2f hr2;go_wp2_with fail
   go_loopw [56] (λi wr=>∃k:Nat,k<=nb/\i= .int .i64 k/\uS (BkAt wr base nb ⟨g,gw,gg,gq,cq,T⟩ most ticks (rnd s2 k))/\uS (Only (BkL.has ⟨g,gw,gg,gq,cq,T⟩) w5 wr)) (λi _=>nb-(intOf i).toNat)
   case atStart=>exact⟨0,qL _,rfl,HX5,Only.refl _ _⟩
   case round=>
    obtain⟨k,hk,rfl,HXR,HOR⟩:=hrel;clear d5;by_cases hlt:k<nb
    ·have ht:=zHs HS2.s k (by omega);obtain⟨t,htt⟩:=kB (rnd s2 k);rw[<-htt]at ht HXR;have HTT:=uT htt;obtain⟨b0,b1,b2,b3⟩:=ht.due_ hlt;have hx:=ht.w _ (qB (bX ht.lw hlt));have hy:=ht.g _ (qB (bX ht.lg hlt));have hz:=ht.q _ (qB (bX ht.lq hlt));have hqs:=zLy _ ht.q _ (qB (bX ht.lq hlt));have hqr:=ht.qs;have htr:=ht.res;have hX:=HXR.s;have a5:wr.cell? ⟨gw,k,none⟩=some (.int .i64 (t.wants.getD k 0)):=IRow.cell hX.rw_ (bX ht.lw hlt);have a6:wr.cell? ⟨gg,k,none⟩=some (.int .i64 (t.granted.getD k 0)):=IRow.cell hX.rg (bX ht.lg hlt);have a7:wr.cell? ⟨gq,k,none⟩=some (.int .i64 (t.quota.getD k 0)):=IRow.cell hX.rq (bX ht.lq hlt);have m3:wr.cell? ⟨g,3,none⟩=some (.int .i64 t.reserve):=hX.blk.cell 3;have m6:wr.cell? ⟨g,6,none⟩=some (.slice (some ⟨gg,0,none⟩) nb nb):=hX.blk.cell 6;have m7:wr.cell? ⟨g,7,none⟩=some (.slice (some ⟨gq,0,none⟩) nb cq):=hX.blk.cell 7;have f3:wr.frozen? ⟨g,3,none⟩=false:=hX.blk.frozen 3;have f6:wr.frozen? ⟨gg,k,none⟩=false:=IRow.frozen hX.rg k;have f7:wr.frozen? ⟨gq,k,none⟩=false:=IRow.frozen hX.rq k;have n1:¬ g=gg:=hX.ng.2.1;have n2:¬ g=gq:=hX.ng.2.2;have n3:¬ gg=gq:=hX.ne.2.2;have n4:¬ gg=g:=λe=>n1 e.symm
     have n5:¬ gq=g:=λe=>n2 e.symm
     have n6:¬ gq=gg:=λe=>n3 e.symm
     have HST:=uT (λ(nn:Nat) x y z hx hy hz=>yCc (i:=k) (hX.only (D:=λ_=>False) ((Only.refl _ wr).drewN nn) λ_ _ e=>e) (by rw[ht.lg];exact hlt) (by rw[ht.lq];exact hlt) x y z hx hy hz);have hdue:t.due k=min (t.wants.getD k 0-t.granted.getD k 0) (t.quota.getD k 0):=rfl;obtain⟨x,hxx⟩:=kB (t.wants.getD k 0);obtain⟨y,hyy⟩:=kB (t.granted.getD k 0);obtain⟨z,hzz⟩:=kB (t.quota.getD k 0);obtain⟨n,hnn⟩:=kB (t.due k);obtain⟨rs,hrs⟩:=kB t.reserve;rw[<-hxx]at a5 hx hdue b2;rw[<-hyy]at a6 hy hdue b2 HST;rw[<-hzz]at a7 hz hdue b1 hqs HST;rw[<-hrs]at m3 htr hqr b3 HST;rw[<-hnn]at hdue b0 b1 b2 b3 HST;have hkn:(k:Int)<(nb:Int):=by omega
     have hfin:∀nn:Nat,∀y' z' r',y'=y+n->z'=z-n->r'=rs-n->uS (BkAt ((((wr.drewN nn).setCell ⟨gg,k,none⟩ (.int .i64 y')).setCell ⟨gq,k,none⟩ (.int .i64 z')).setCell ⟨g,3,none⟩ (.int .i64 r')) base nb ⟨g,gw,gg,gq,cq,T⟩ most ticks (rnd s2 (k+1)))/\uS (Only (BkL.has ⟨g,gw,gg,gq,cq,T⟩) w5 ((((wr.drewN nn).setCell ⟨gg,k,none⟩ (.int .i64 y')).setCell ⟨gq,k,none⟩ (.int .i64 z')).setCell ⟨g,3,none⟩ (.int .i64 r'))):=λnn y' z' r' h1 h2 h3=>by
      refine⟨?_,?_⟩
      ·have h:=HST.s nn y' z' r' h1 h2 h3;rw[HTT.s]at h;exact h
      ·exact Only.setCell (Only.setCell (Only.setCell (HOR.s.drewN nn) (λ_=> .inr (.inr (.inl rfl))) _) (λ_=> .inr (.inr (.inr rfl))) _) (λ_=> .inl rfl) _
     have HFIN:=uT hfin;have hbb:rs<=1048576/\0<=rs/\z<=1048576:=by omega
     clear hfin ht htt hqs hqr htr hX hxx hyy hzz hnn hrs;rcases(show(x-y<z/\n=x-y)\/(z<=x-y/\n=z)by omega)with⟨hmin,hn2⟩|⟨hmin,hn2⟩
     all_goals
      have HN2:=uT hn2;clear hn2 hdue;go_wp2_with fail;refine bV 16 (by kernel_rfl) (by kernel_rfl) ?_;simp only[qX,jE,qZ,jL]
      repeat(go_big_quiet_step (fail))
      refine qF ?_;rintro _ ⟨nq2,rfl⟩;go_wp2_with fail;go_roundw
      case rel=>have hn:=HN2.s;exact⟨k+1,by omega,by go_num,(HFIN.s nq2 _ _ _ (by omega) (by omega) (by omega)).1,(HFIN.s nq2 _ _ _ (by omega) (by omega) (by omega)).2⟩
      case measure=>simp[intOf];omega
    ·obtain rfl:k=nb:=by omega
     have ht:=zHs HS2.s k (qA _);have hX:=HXR.s;have m6:wr.cell? ⟨g,6,none⟩=some (.slice (some ⟨gg,0,none⟩) k k):=hX.blk.cell 6;have HOA:=uT (show Only (BkL.has ⟨g,gw,gg,gq0,cq0,T0⟩) w wr from HO5.s.trans HOR.s (λa ha h=>by
      rcases h with h|h|h|h
      ·exact .inl h
      ·exact .inr (.inl h)
      ·exact .inr (.inr (.inl h))
      ·rcases HGQ.s with h2|h2
       ·exact .inr (.inr (.inr (h.trans h2)))
       ·dsimp only at h;omega))
     have HCL:=uT (zNx (some ⟨gg,0,none⟩) k k (rnd s2 k).granted wr.heap.size wr ht.lg (by omega) (IRow.reads hX.rg ht.lg) (qA _));clear ht hX;go_wp2_with fail;refine HCL.s.mono ?_;rintro _ w9 ⟨v9,rfl,ho9,hb9⟩;obtain⟨A9,c9,rfl,_⟩:=bE ho9;obtain⟨HO9,HB9⟩:=uI ho9 hb9;clear ho9 hb9;go_wp2_with fail;go_ret2;rw[HF.s];exact⟨⟨g,gw,gg,gq,cq,T⟩,A9,c9,rfl,dU HO9.s HOA.s.size,HXR.s.calm HB9.s,rfl,rfl,rfl,HGQ.s,HOA.s.calm HB9.s,λq hq hh=>by have h1:=(HO9.s.lt q hq).1;have h2:=HXR.s.lt q hh;omega⟩
 ·have HF:=uT (show fR most ticks s=(rnd {s with round:=s.round+1} nb,(rnd {s with round:=s.round+1} nb).granted,-1)by unfold fR;simp only[if_neg hep];rw[HBL.s]);have hep':(s.round%ticks==0)=false:=by simpa using hep
  clear hep;go_enter func82,ntmps82;go_wp2_with fail;go_quiet (fail);go_upto_region 5 with fail;obtain⟨wc,hwc⟩:=kB (w.drewN nq);obtain⟨gq,cq,T,s1,hGQ,hXc,hO1,hR1,hF⟩:∃gq cq T s1,(gq=gq0\/w.heap.size<=gq)/\BkAt wc base nb ⟨g,gw,gg,gq,cq,T⟩ most ticks s1/\s1.ok nb K/\s1.round=s.round/\fR most ticks s=(rnd {s1 with round:=s.round+1} nb,(rnd {s1 with round:=s.round+1} nb).granted,-1):=
   ⟨gq0,cq0,T0,s,.inl rfl,by rw[hwc];exact HX.s.calm (below_drewN (qC _ _) _),HO.s,rfl,HF.s⟩
  obtain⟨HGQ,HXC,HO1,HR1,HOC⟩:=uL hGQ hXc hO1 hR1 (show Only (BkL.has ⟨g,gw,gg,gq0,cq0,T0⟩) w wc by rw[hwc];exact(Only.refl _ _).drewN _);obtain⟨rep,hrep⟩:∃rep:Int,rep= -1:=⟨_,rfl⟩;rw[<-hrep]at hF;rw[<-hrep,<-hwc];clear HF;have HF:=uT hF;clear hF hGQ hXc hO1 hR1 hrep hwc c0 c1 c2 c3 htm htz;have d2:wc.cell? ⟨g,2,none⟩=some (.int .i64 s1.round):=HXC.s.blk.cell 2;have d2f:wc.frozen? ⟨g,2,none⟩=false:=HXC.s.blk.frozen 2;have hr1:=HR1.s;have hr2:0<=s1.round/\s1.round<=1000000:=by omega
  clear hr1;go_upto_region 6 with fail;obtain⟨w5,hw5⟩:=kB (wc.setCell ⟨g,2,none⟩ (.int .i64 (s1.round+1)));obtain⟨s2,hs2⟩:=kB ({s1 with round:=s.round+1});have HX5:=uT (show BkAt w5 base nb ⟨g,gw,gg,gq,cq,T⟩ most ticks s2 by have h:=HXC.s;rw[hw5,hs2,<-HR1.s];exact⟨h.blk.set_ 2 _,Blk.far h.rw_ (Ne.symm h.ng.1) _,Blk.far h.rg (Ne.symm h.ng.2.1) _,Blk.far h.rq (Ne.symm h.ng.2.2) _,h.cap,h.low,h.ne⟩)
  have HO5:=uT (show Only (BkL.has ⟨g,gw,gg,gq0,cq0,T0⟩) w w5 by rw[hw5];exact Only.setCell HOC.s (λ_=> .inl rfl) _);have HS2:=uT (show s2.ok nb (K+1)by have t:=HO1.s;rw[hs2];exact⟨t.lw,t.lg,t.lq,(show 0<=s.round+1/\s.round+1<=K+1 by omega),t.res,t.w,t.g,t.gw,t.q,t.qs⟩)
  rw[<-hs2]at HF;rw[<-hw5];have d5:w5.cell? ⟨g,5,none⟩=some (.slice (some ⟨gw,0,none⟩) nb nb):=HX5.s.blk.cell 5;have hnbi:(nb:Int)<=8:=by omega
  clear hw5 hs2 d2 d2f hr2;go_wp2_with fail
  go_loopw [56] (λi wr=>∃k:Nat,k<=nb/\i= .int .i64 k/\uS (BkAt wr base nb ⟨g,gw,gg,gq,cq,T⟩ most ticks (rnd s2 k))/\uS (Only (BkL.has ⟨g,gw,gg,gq,cq,T⟩) w5 wr)) (λi _=>nb-(intOf i).toNat)
  case atStart=>exact⟨0,qL _,rfl,HX5,Only.refl _ _⟩
  case round=>
   obtain⟨k,hk,rfl,HXR,HOR⟩:=hrel;clear d5;by_cases hlt:k<nb
   ·have ht:=zHs HS2.s k (by omega);obtain⟨t,htt⟩:=kB (rnd s2 k);rw[<-htt]at ht HXR;have HTT:=uT htt;obtain⟨b0,b1,b2,b3⟩:=ht.due_ hlt;have hx:=ht.w _ (qB (bX ht.lw hlt));have hy:=ht.g _ (qB (bX ht.lg hlt));have hz:=ht.q _ (qB (bX ht.lq hlt));have hqs:=zLy _ ht.q _ (qB (bX ht.lq hlt));have hqr:=ht.qs;have htr:=ht.res;have hX:=HXR.s;have a5:wr.cell? ⟨gw,k,none⟩=some (.int .i64 (t.wants.getD k 0)):=IRow.cell hX.rw_ (bX ht.lw hlt);have a6:wr.cell? ⟨gg,k,none⟩=some (.int .i64 (t.granted.getD k 0)):=IRow.cell hX.rg (bX ht.lg hlt);have a7:wr.cell? ⟨gq,k,none⟩=some (.int .i64 (t.quota.getD k 0)):=IRow.cell hX.rq (bX ht.lq hlt);have m3:wr.cell? ⟨g,3,none⟩=some (.int .i64 t.reserve):=hX.blk.cell 3;have m6:wr.cell? ⟨g,6,none⟩=some (.slice (some ⟨gg,0,none⟩) nb nb):=hX.blk.cell 6;have m7:wr.cell? ⟨g,7,none⟩=some (.slice (some ⟨gq,0,none⟩) nb cq):=hX.blk.cell 7;have f3:wr.frozen? ⟨g,3,none⟩=false:=hX.blk.frozen 3;have f6:wr.frozen? ⟨gg,k,none⟩=false:=IRow.frozen hX.rg k;have f7:wr.frozen? ⟨gq,k,none⟩=false:=IRow.frozen hX.rq k;have n1:¬ g=gg:=hX.ng.2.1;have n2:¬ g=gq:=hX.ng.2.2;have n3:¬ gg=gq:=hX.ne.2.2;have n4:¬ gg=g:=λe=>n1 e.symm
    have n5:¬ gq=g:=λe=>n2 e.symm
    have n6:¬ gq=gg:=λe=>n3 e.symm
    have HST:=uT (λ(nn:Nat) x y z hx hy hz=>yCc (i:=k) (hX.only (D:=λ_=>False) ((Only.refl _ wr).drewN nn) λ_ _ e=>e) (by rw[ht.lg];exact hlt) (by rw[ht.lq];exact hlt) x y z hx hy hz);have hdue:t.due k=min (t.wants.getD k 0-t.granted.getD k 0) (t.quota.getD k 0):=rfl;obtain⟨x,hxx⟩:=kB (t.wants.getD k 0);obtain⟨y,hyy⟩:=kB (t.granted.getD k 0);obtain⟨z,hzz⟩:=kB (t.quota.getD k 0);obtain⟨n,hnn⟩:=kB (t.due k);obtain⟨rs,hrs⟩:=kB t.reserve;rw[<-hxx]at a5 hx hdue b2;rw[<-hyy]at a6 hy hdue b2 HST;rw[<-hzz]at a7 hz hdue b1 hqs HST;rw[<-hrs]at m3 htr hqr b3 HST;rw[<-hnn]at hdue b0 b1 b2 b3 HST;have hkn:(k:Int)<(nb:Int):=by omega
    have hfin:∀nn:Nat,∀y' z' r',y'=y+n->z'=z-n->r'=rs-n->uS (BkAt ((((wr.drewN nn).setCell ⟨gg,k,none⟩ (.int .i64 y')).setCell ⟨gq,k,none⟩ (.int .i64 z')).setCell ⟨g,3,none⟩ (.int .i64 r')) base nb ⟨g,gw,gg,gq,cq,T⟩ most ticks (rnd s2 (k+1)))/\uS (Only (BkL.has ⟨g,gw,gg,gq,cq,T⟩) w5 ((((wr.drewN nn).setCell ⟨gg,k,none⟩ (.int .i64 y')).setCell ⟨gq,k,none⟩ (.int .i64 z')).setCell ⟨g,3,none⟩ (.int .i64 r'))):=λnn y' z' r' h1 h2 h3=>by
     refine⟨?_,?_⟩
     ·have h:=HST.s nn y' z' r' h1 h2 h3;rw[HTT.s]at h;exact h
     ·exact Only.setCell (Only.setCell (Only.setCell (HOR.s.drewN nn) (λ_=> .inr (.inr (.inl rfl))) _) (λ_=> .inr (.inr (.inr rfl))) _) (λ_=> .inl rfl) _
    have HFIN:=uT hfin;have hbb:rs<=1048576/\0<=rs/\z<=1048576:=by omega
    clear hfin ht htt hqs hqr htr hX hxx hyy hzz hnn hrs;rcases(show(x-y<z/\n=x-y)\/(z<=x-y/\n=z)by omega)with⟨hmin,hn2⟩|⟨hmin,hn2⟩
    all_goals
     have HN2:=uT hn2;clear hn2 hdue;go_wp2_with fail;refine bV 16 (by kernel_rfl) (by kernel_rfl) ?_;simp only[qX,jE,qZ,jL]
     repeat(go_big_quiet_step (fail))
     refine qF ?_;rintro _ ⟨nq2,rfl⟩;go_wp2_with fail;go_roundw
     case rel=>have hn:=HN2.s;exact⟨k+1,by omega,by go_num,(HFIN.s nq2 _ _ _ (by omega) (by omega) (by omega)).1,(HFIN.s nq2 _ _ _ (by omega) (by omega) (by omega)).2⟩
     case measure=>simp[intOf];omega
   ·obtain rfl:k=nb:=by omega
    have ht:=zHs HS2.s k (qA _);have hX:=HXR.s;have m6:wr.cell? ⟨g,6,none⟩=some (.slice (some ⟨gg,0,none⟩) k k):=hX.blk.cell 6;have HOA:=uT (show Only (BkL.has ⟨g,gw,gg,gq0,cq0,T0⟩) w wr from HO5.s.trans HOR.s (λa ha h=>by
     rcases h with h|h|h|h
     ·exact .inl h
     ·exact .inr (.inl h)
     ·exact .inr (.inr (.inl h))
     ·rcases HGQ.s with h2|h2
      ·exact .inr (.inr (.inr (h.trans h2)))
      ·dsimp only at h;omega))
    have HCL:=uT (zNx (some ⟨gg,0,none⟩) k k (rnd s2 k).granted wr.heap.size wr ht.lg (by omega) (IRow.reads hX.rg ht.lg) (qA _));clear ht hX;go_wp2_with fail;refine HCL.s.mono ?_;rintro _ w9 ⟨v9,rfl,ho9,hb9⟩;obtain⟨A9,c9,rfl,_⟩:=bE ho9;obtain⟨HO9,HB9⟩:=uI ho9 hb9;clear ho9 hb9;go_wp2_with fail;go_ret2;rw[HF.s];exact⟨⟨g,gw,gg,gq,cq,T⟩,A9,c9,rfl,dU HO9.s HOA.s.size,HXR.s.calm HB9.s,rfl,rfl,rfl,HGQ.s,HOA.s.calm HB9.s,λq hq hh=>by have h1:=(HO9.s.lt q hq).1;have h2:=HXR.s.lt q hh;omega⟩
theorem zDy(w:World)(s:Nat):IRow (w.alloc (.cells (madeCells #[Value.int .i64 0] s) 3)) w.heap.size (List.replicate s 0) []:=by
 unfold IRow;have e:((List.replicate s (0:Int)).map (Value.int .i64)++[]).toArray=madeCells #[Value.int .i64 0] s:=by rw[<-uD];simp[toList_madeCells_one]
 rw[e];exact Blk.new w 3 _
theorem zKt(base nb:Nat)(most ticks:Int)(w:World)(hnb:nb<=8)(hB:base<=w.heap.size)(a b c:Nat)(ha:w.heap.size<=a/\a<=w.heap.size+2)(hb:w.heap.size<=b/\b<=w.heap.size+2)(hc:w.heap.size<=c/\c<=w.heap.size+2)(hn:a≠b/\a≠c/\b≠c)(W:World)(hW:W=((((w.alloc (.cells (madeCells #[Value.int .i64 0] nb) 3)).alloc (.cells (madeCells #[Value.int .i64 0] nb) 3)).alloc (.cells (madeCells #[Value.int .i64 0] nb) 3)).alloc (.cells #[.int .i64 most,.int .i64 ticks,.int .i64 0,.int .i64 0,.int .i64 0,.slice (some ⟨a,0,none⟩) nb nb,.slice (some ⟨b,0,none⟩) nb nb,.slice (some ⟨c,0,none⟩) nb nb] 75)).drew):BkAt W base nb ⟨w.heap.size+3,a,b,c,nb,[]⟩ most ticks (BkS.new nb)/\uR w W/\∀k,BkL.has ⟨w.heap.size+3,a,b,c,nb,[]⟩ k->w.heap.size<=k:=by
 subst hW;obtain⟨w1,hw1⟩:=kB (w.alloc (.cells (madeCells #[Value.int .i64 0] nb) 3));obtain⟨w2,hw2⟩:=kB (w1.alloc (.cells (madeCells #[Value.int .i64 0] nb) 3));obtain⟨w3,hw3⟩:=kB (w2.alloc (.cells (madeCells #[Value.int .i64 0] nb) 3));rw[<-hw1,<-hw2,<-hw3];have s1:w1.heap.size=w.heap.size+1:=by rw[hw1];simp
 have s2:w2.heap.size=w.heap.size+2:=by rw[hw2];simp[s1]
 have s3:w3.heap.size=w.heap.size+3:=by rw[hw3];simp[s2]
 have r1:IRow w1 w.heap.size (List.replicate nb 0) []:=by rw[hw1];exact zDy w nb
 have r2:IRow w2 (w.heap.size+1) (List.replicate nb 0) []:=by rw[hw2,<-s1];exact zDy w1 nb
 have r3:IRow w3 (w.heap.size+2) (List.replicate nb 0) []:=by rw[hw3,<-s2];exact zDy w2 nb
 have b1:=uH hw1;have b2:=uH hw2;have b3:=uH hw3;have q1:IRow w3 w.heap.size (List.replicate nb 0) []:=Blk.below (Blk.below r1 b2 (Blk.lt r1)) b3 (by omega);have q2:IRow w3 (w.heap.size+1) (List.replicate nb 0) []:=Blk.below r2 b3 (by omega);have hz:∀k,w.heap.size<=k->k<=w.heap.size+2->∀o,IRow ((w3.alloc o).drew) k (List.replicate nb 0) []:=λk h1 h2 o=>by
  have h3:IRow w3 k (List.replicate nb 0) []:=by
   rcases(show k=w.heap.size\/k=w.heap.size+1\/k=w.heap.size+2 by omega)with rfl|rfl|rfl
   ·exact q1
   ·exact q2
   ·exact r3
  exact Blk.drew (Blk.alloc h3 o)
 refine⟨⟨?_,hz a ha.1 ha.2 _,hz b hb.1 hb.2 _,hz c hc.1 hc.2 _,⟨by simp,by unfold maxLen;dsimp only;omega⟩,⟨by dsimp only;omega,by dsimp only;omega,by dsimp only;omega,by dsimp only;omega⟩,hn⟩,?_,λk hk=> ?_⟩
 ·rw[<-s3];exact(Blk.new w3 75 _).drew
 ·exact(((b1.trans (b2.mono (by omega))).trans (b3.mono (by omega))).alloc (by omega) _).drew
 ·rcases hk with rfl|rfl|rfl|rfl
  ·exact Nat.le_add_right _ _
  ·exact ha.1
  ·exact hb.1
  ·exact hc.1
theorem yAu(base nb:Nat)(most ticks:Int)(w:World)(hnb:nb<=8)(hB:base<=w.heap.size):Calls prog 61 #[.int .i64 nb,.int .i64 most,.int .i64 ticks] w λe w'=>∃p:BkL,e= .returned (.pointer (some ⟨p.g,0,none⟩))/\BkAt w' base nb p most ticks (BkS.new nb)/\uR w w'/\∀k,p.has k->w.heap.size<=k:=by
 obtain⟨i0,hi,hz0,hz1,hz2⟩:=zHd;have hmk:=λW=>dN (P:=prog) 22 3 i0 _ underlying22 hi hz0 .i64 .i64 nb nb (qA _) (by rw[hz2];omega) (by omega) W
 rw[hz1]at hmk;go_enter func61,ntmps61;go_wp2_with fail
 go_region
 all_goals
  go_wp2_with fail;go_ret
  first
   |exact⟨_,rfl,zKt base nb most ticks w hnb hB w.heap.size (w.heap.size+1) (w.heap.size+2) (by omega) (by omega) (by omega) (by omega) _ rfl⟩
   |exact⟨_,rfl,zKt base nb most ticks w hnb hB w.heap.size (w.heap.size+2) (w.heap.size+1) (by omega) (by omega) (by omega) (by omega) _ rfl⟩
   |exact⟨_,rfl,zKt base nb most ticks w hnb hB (w.heap.size+1) w.heap.size (w.heap.size+2) (by omega) (by omega) (by omega) (by omega) _ rfl⟩
   |exact⟨_,rfl,zKt base nb most ticks w hnb hB (w.heap.size+1) (w.heap.size+2) w.heap.size (by omega) (by omega) (by omega) (by omega) _ rfl⟩
   |exact⟨_,rfl,zKt base nb most ticks w hnb hB (w.heap.size+2) w.heap.size (w.heap.size+1) (by omega) (by omega) (by omega) (by omega) _ rfl⟩
   |exact⟨_,rfl,zKt base nb most ticks w hnb hB (w.heap.size+2) (w.heap.size+1) w.heap.size (by omega) (by omega) (by omega) (by omega) _ rfl⟩
structure BrL where
 g:Nat
 gw:Nat
 gg:Nat
 gs:Nat
 gq:Nat
 cq:Nat
 T:List Value
def BrL.has(p:BrL)(k:Nat):Prop:=k=p.g\/k=p.gw\/k=p.gg\/k=p.gs\/k=p.gq
structure BrAt(w:World)(base nb:Nat)(p:BrL)(most ticks:Int)(s:BrS):Prop where
 blk:Blk w p.g 95 #[.int .i64 nb,.int .i64 most,.int .i64 ticks,.int .i64 s.rounds,.int .i64 s.reserve,.int .i64 s.ever,.slice (some ⟨p.gw,0,none⟩) nb nb,.slice (some ⟨p.gg,0,none⟩) nb nb,.slice (some ⟨p.gs,0,none⟩) nb nb,.slice (some ⟨p.gq,0,none⟩) nb p.cq]
 rw_:IRow w p.gw s.wants []
 rg:IRow w p.gg s.given []
 rs:IRow w p.gs s.since []
 rq:IRow w p.gq s.quotas p.T
 cap:nb+p.T.length=p.cq/\p.cq<=maxLen
 low:base<=p.g/\base<=p.gw/\base<=p.gg/\base<=p.gs/\base<=p.gq
 ne:p.gw≠p.gg/\p.gw≠p.gs/\p.gw≠p.gq/\p.gg≠p.gs/\p.gg≠p.gq/\p.gs≠p.gq
section
variable {w w':World}{base nb:Nat}{p:BrL}{most ticks:Int}{s:BrS}
theorem BrAt.ng(h:BrAt w base nb p most ticks s):p.g≠p.gw/\p.g≠p.gg/\p.g≠p.gs/\p.g≠p.gq:=
 ⟨Blk.ne_ h.blk h.rw_ (by decide),Blk.ne_ h.blk h.rg (by decide),Blk.ne_ h.blk h.rs (by decide),Blk.ne_ h.blk h.rq (by decide)⟩
theorem BrAt.lt(h:BrAt w base nb p most ticks s)(k:Nat)(hk:p.has k):k<w.heap.size:=by
 rcases hk with rfl|rfl|rfl|rfl|rfl
 ·exact h.blk.lt
 ·exact Blk.lt h.rw_
 ·exact Blk.lt h.rg
 ·exact Blk.lt h.rs
 ·exact Blk.lt h.rq
theorem BrAt.only{D:Nat->Prop}(h:BrAt w base nb p most ticks s)(ho:Only D w w')(hn:∀k,p.has k->¬ D k):BrAt w' base nb p most ticks s:=
 ⟨h.blk.only ho (hn _ (.inl rfl)),Blk.only h.rw_ ho (hn _ (.inr (.inl rfl))),Blk.only h.rg ho (hn _ (.inr (.inr (.inl rfl)))),Blk.only h.rs ho (hn _ (.inr (.inr (.inr (.inl rfl))))),Blk.only h.rq ho (hn _ (.inr (.inr (.inr (.inr rfl))))),h.cap,h.low,h.ne⟩
theorem BrAt.calm(h:BrAt w base nb p most ticks s)(hb:uR w w'):BrAt w' base nb p most ticks s:=
 h.only (D:=λ_=>False) (Only.of_below hb λx h1 h2=>by omega) (λ_ _ e=>e)
end
theorem br_new(base nb:Nat)(most ticks:Int)(w:World)(hnb:nb<=8)(hB:base<=w.heap.size)(a b c d:Nat)(ha:w.heap.size<=a/\a<=w.heap.size+3)(hb:w.heap.size<=b/\b<=w.heap.size+3)(hc:w.heap.size<=c/\c<=w.heap.size+3)(hd:w.heap.size<=d/\d<=w.heap.size+3)(hn:a≠b/\a≠c/\a≠d/\b≠c/\b≠d/\c≠d)(W:World)(hW:W=(((((w.alloc (.cells (madeCells #[Value.int .i64 0] nb) 3)).alloc (.cells (madeCells #[Value.int .i64 0] nb) 3)).alloc (.cells (madeCells #[Value.int .i64 0] nb) 3)).alloc (.cells (madeCells #[Value.int .i64 0] nb) 3)).alloc (.cells #[.int .i64 nb,.int .i64 most,.int .i64 ticks,.int .i64 0,.int .i64 0,.int .i64 0,.slice (some ⟨a,0,none⟩) nb nb,.slice (some ⟨b,0,none⟩) nb nb,.slice (some ⟨c,0,none⟩) nb nb,.slice (some ⟨d,0,none⟩) nb nb] 95)).drew):BrAt W base nb ⟨w.heap.size+4,a,b,c,d,nb,[]⟩ most ticks (BrS.new nb)/\uR w W/\∀k,BrL.has ⟨w.heap.size+4,a,b,c,d,nb,[]⟩ k->w.heap.size<=k:=by
 subst hW;obtain⟨w1,hw1⟩:=kB (w.alloc (.cells (madeCells #[Value.int .i64 0] nb) 3));obtain⟨w2,hw2⟩:=kB (w1.alloc (.cells (madeCells #[Value.int .i64 0] nb) 3));obtain⟨w3,hw3⟩:=kB (w2.alloc (.cells (madeCells #[Value.int .i64 0] nb) 3));obtain⟨w4,hw4⟩:=kB (w3.alloc (.cells (madeCells #[Value.int .i64 0] nb) 3));rw[<-hw1,<-hw2,<-hw3,<-hw4];have s1:w1.heap.size=w.heap.size+1:=by rw[hw1];simp
 have s2:w2.heap.size=w.heap.size+2:=by rw[hw2];simp[s1]
 have s3:w3.heap.size=w.heap.size+3:=by rw[hw3];simp[s2]
 have s4:w4.heap.size=w.heap.size+4:=by rw[hw4];simp[s3]
 have r1:IRow w1 w.heap.size (List.replicate nb 0) []:=by rw[hw1];exact zDy w nb
 have r2:IRow w2 (w.heap.size+1) (List.replicate nb 0) []:=by rw[hw2,<-s1];exact zDy w1 nb
 have r3:IRow w3 (w.heap.size+2) (List.replicate nb 0) []:=by rw[hw3,<-s2];exact zDy w2 nb
 have r4:IRow w4 (w.heap.size+3) (List.replicate nb 0) []:=by rw[hw4,<-s3];exact zDy w3 nb
 have b1:=uH hw1;have b2:=uH hw2;have b3:=uH hw3;have b4:=uH hw4;have q1:IRow w4 w.heap.size (List.replicate nb 0) []:=Blk.below (Blk.below (Blk.below r1 b2 (Blk.lt r1)) b3 (by omega)) b4 (by omega);have q2:IRow w4 (w.heap.size+1) (List.replicate nb 0) []:=Blk.below (Blk.below r2 b3 (by omega)) b4 (by omega);have q3:IRow w4 (w.heap.size+2) (List.replicate nb 0) []:=Blk.below r3 b4 (by omega);have hz:∀k,w.heap.size<=k->k<=w.heap.size+3->∀o,IRow ((w4.alloc o).drew) k (List.replicate nb 0) []:=λk h1 h2 o=>by
  have h3:IRow w4 k (List.replicate nb 0) []:=by
   rcases(show k=w.heap.size\/k=w.heap.size+1\/k=w.heap.size+2\/k=w.heap.size+3 by omega)with rfl|rfl|rfl|rfl
   ·exact q1
   ·exact q2
   ·exact q3
   ·exact r4
  exact Blk.drew (Blk.alloc h3 o)
 refine⟨⟨?_,hz a ha.1 ha.2 _,hz b hb.1 hb.2 _,hz c hc.1 hc.2 _,hz d hd.1 hd.2 _,⟨by simp,by unfold maxLen;dsimp only;omega⟩,⟨by dsimp only;omega,by dsimp only;omega,by dsimp only;omega,by dsimp only;omega,by dsimp only;omega⟩,hn⟩,?_,λk hk=> ?_⟩
 ·rw[<-s4];exact(Blk.new w4 95 _).drew
 ·exact((((b1.trans (b2.mono (by omega))).trans (b3.mono (by omega))).trans (b4.mono (by omega))).alloc (by omega) _).drew
 ·rcases hk with rfl|rfl|rfl|rfl|rfl
  ·exact Nat.le_add_right _ _
  ·exact ha.1
  ·exact hb.1
  ·exact hc.1
  ·exact hd.1
theorem zWg(base nb:Nat)(most ticks:Int)(w:World)(hnb:nb<=8)(hB:base<=w.heap.size):Calls prog 42 #[.int .i64 nb,.int .i64 most,.int .i64 ticks] w λe w'=>∃p:BrL,e= .returned (.pointer (some ⟨p.g,0,none⟩))/\BrAt w' base nb p most ticks (BrS.new nb)/\uR w w'/\∀k,p.has k->w.heap.size<=k:=by
 obtain⟨i0,hi,hz0,hz1,hz2⟩:=zHd;have hmk:=λW=>dN (P:=prog) 22 3 i0 _ underlying22 hi hz0 .i64 .i64 nb nb (qA _) (by rw[hz2];omega) (by omega) W
 rw[hz1]at hmk;go_enter func42,ntmps42;go_wp2_with fail
 go_region
 all_goals
  go_wp2_with fail;go_ret;refine⟨_,rfl,br_new base nb most ticks w hnb hB _ _ _ _ ?_ ?_ ?_ ?_ ?_ _ rfl⟩<;>omega
structure BrS.ok(s:BrS)(nb:Nat):Prop where
 lw:s.wants.length=nb
 lg:s.given.length=nb
 ls:s.since.length=nb
 lq:s.quotas.length=nb
 rd:0<=s.rounds/\s.rounds<=8
 res:0<=s.reserve/\s.reserve<=1048576
 w:∀x∈s.wants,0<=x/\x<=1048576
 g:∀i,i<nb->0<=s.given.getD i 0/\s.given.getD i 0<=s.wants.getD i 0
 q:∀i,i<nb->0<=s.since.getD i 0/\s.since.getD i 0<=s.quotas.getD i 0/\s.quotas.getD i 0<=1048576
theorem brs_ok{ticks:Int}{nb:Nat}{s:BkS}{r:BrS}{K:Int}(h:zBk ticks nb s r)(ho:s.ok nb K)(ht:1<=ticks/\ticks<=8):r.ok nb:=by
 refine⟨by rw[h.w];exact ho.lw,by rw[h.g];exact ho.lg,h.ls,h.lq,?_,?_,by rw[h.w];exact ho.w,λi hi=> ?_,h.bd⟩
 ·rw[h.rd];have h1:=Int.emod_nonneg s.round (show ticks≠0 by omega);have h2:=Int.emod_lt_of_pos s.round (show 0<ticks by omega);omega
 ·rw[h.res];have:=ho.res;omega
 ·rw[h.g,h.w];have h1:=ho.gw i _ _ (bX ho.lg hi) (bX ho.lw hi);have h2:=ho.g _ (qB (bX ho.lg hi));exact⟨h2,h1⟩
theorem zVh{s:BrS}{nb i:Nat}(h:s.ok nb)(hi:i<nb):(fC s i).due i=0:=by
 have h1:=h.g i hi;have h2:=h.q i hi;have hg:(fC s i).given.getD i 0=s.given.getD i 0+s.due i:=by simp only[fC];rw[zFo (by rw[h.lg];exact hi),if_pos rfl]
 have hs:(fC s i).since.getD i 0=s.since.getD i 0+s.due i:=by simp only[fC];rw[zFo (by rw[h.ls];exact hi),if_pos rfl]
 have hd:s.due i=if s.given.getD i 0<s.wants.getD i 0/\s.since.getD i 0<s.quotas.getD i 0 then min (s.wants.getD i 0-s.given.getD i 0) (s.quotas.getD i 0-s.since.getD i 0)else 0:=rfl
 have hw:(fC s i).wants=s.wants:=rfl;have hq:(fC s i).quotas=s.quotas:=rfl;unfold BrS.due;rw[hg,hs,hw,hq,if_neg];rw[hd]
 split<;>omega
theorem set_self{l:List Int}{i n:Nat}(hl:l.length=n)(hi:i<n):l.set i (l.getD i 0+0)=l:=by
 apply List.ext_getElem?;intro j;rw[List.getElem?_set]
 split
 ·rename_i e;subst e;rw[if_pos (by omega),bX hl hi,Int.add_zero]
 ·rfl
theorem zJp{s:BrS}{nb i:Nat}(h:s.ok nb)(hi:i<nb)(hd:s.due i=0):fC s i=s:=by unfold fC;rw[hd,set_self h.lg hi,set_self h.ls hi,Int.sub_zero]
theorem yCo{w:World}{base nb:Nat}{p:BrL}{most ticks:Int}{s:BrS}{i:Nat}(h:BrAt w base nb p most ticks s)(hg:i<s.given.length)(hq:i<s.since.length)(x y z:Int)(hx:x=s.given.getD i 0+s.due i)(hy:y=s.since.getD i 0+s.due i)(hz:z=s.reserve-s.due i):BrAt (((w.setCell ⟨p.gg,i,none⟩ (.int .i64 x)).setCell ⟨p.gs,i,none⟩ (.int .i64 y)).setCell ⟨p.g,4,none⟩ (.int .i64 z)) base nb p most ticks (fC s i):=by
 subst hx hy hz;obtain⟨n1,n2,n3,n4⟩:=h.ng;obtain⟨m1,m2,m3,m4,m5,m6⟩:=h.ne;refine⟨?_,?_,?_,?_,?_,h.cap,h.low,h.ne⟩
 ·exact((h.blk.far n2 _).far n3 _).set_ 4 _
 ·exact Blk.far (Blk.far (Blk.far h.rw_ m1 _) m2 _) (Ne.symm n1) _
 ·exact Blk.far (Blk.far (h.rg.set_ hg _) m4 _) (Ne.symm n2) _
 ·have h1:IRow (w.setCell ⟨p.gg,i,none⟩ (.int .i64 (s.given.getD i 0+s.due i))) p.gs s.since []:=Blk.far h.rs (Ne.symm m4) _;exact Blk.far (h1.set_ hq _) (Ne.symm n3) _
 ·exact Blk.far (Blk.far (Blk.far h.rq (Ne.symm m5) _) (Ne.symm m6) _) (Ne.symm n4) _
def BrGives(w:World)(base nb:Nat)(p:BrL)(most ticks:Int)(r:BrS×(List Int×Int))(e:Ending)(w':World):Prop:=
 ∃(p':BrL) (A:Option Addr) (c:Nat),e= .returned (.tuple #[.slice A nb c,.int .i64 r.2.2])/\w'.ownsRow w.heap.size 3 1 (.slice A nb c) nb (r.2.1.map (.int .i64))/\BrAt w' base nb p' most ticks r.1/\
  p'.g=p.g/\(∀k,p'.has k->p.has k\/w.heap.size<=k)/\Only p.has w w'/\(∀q,(Value.slice A nb c).ownBlock=some q->¬ p'.has q)
theorem br_open{w4:World}{base B4 nb:Nat}{p:BrL}{most ticks:Int}{s:BrS}{v:Value}{q:List Int}(h:BrAt w4 base nb p most ticks s)(hlt:∀k,p.has k->k<B4)(hB:base<=B4)(hq:w4.ownsRow B4 3 1 v nb (q.map (.int .i64)))(hnb:1<=nb/\nb<=8):∃gq cq T,v= .slice (some ⟨gq,0,none⟩) nb cq/\B4<=gq/\gq<w4.heap.size/\BrAt (((w4.setCell ⟨p.g,9,none⟩ v).setCell ⟨p.g,8,none⟩ (.slice (some ⟨w4.heap.size,0,none⟩) nb nb)).alloc (.cells (madeCells #[Value.int .i64 0] nb) 3)) base nb ⟨p.g,p.gw,p.gg,w4.heap.size,gq,cq,T⟩ most ticks {s with quotas:=q,since:=List.replicate nb 0}:=by
 obtain⟨gq,cq,T,rfl,hg,hgl,hc,hcm,hT,hI⟩:=zZh hq hnb.1;have n0:=hlt p.g (.inl rfl);have n1:=hlt p.gw (.inr (.inl rfl));have n2:=hlt p.gg (.inr (.inr (.inl rfl)));have l0:=h.lt p.g (.inl rfl);have l1:=h.lt p.gw (.inr (.inl rfl));have l2:=h.lt p.gg (.inr (.inr (.inl rfl)));refine⟨gq,cq,T,rfl,hg,hgl,⟨?_,?_,?_,?_,?_,⟨hT,hcm⟩,⟨h.low.1,h.low.2.1,h.low.2.2.1,by dsimp only;omega,by dsimp only;omega⟩,⟨h.ne.1,by dsimp only;omega,by dsimp only;omega,by dsimp only;omega,by dsimp only;omega,by dsimp only;omega⟩⟩⟩
 ·exact((h.blk.set_ 9 _).set_ 8 _).alloc _
 ·exact Blk.alloc (Blk.far (Blk.far h.rw_ (Ne.symm h.ng.1) _) (Ne.symm h.ng.1) _) _
 ·exact Blk.alloc (Blk.far (Blk.far h.rg (Ne.symm h.ng.2.1) _) (Ne.symm h.ng.2.1) _) _
 ·have h1:=zDy ((w4.setCell ⟨p.g,9,none⟩ (.slice (some ⟨gq,0,none⟩) nb cq)).setCell ⟨p.g,8,none⟩ (.slice (some ⟨w4.heap.size,0,none⟩) nb nb)) nb;have hs:((w4.setCell ⟨p.g,9,none⟩ (.slice (some ⟨gq,0,none⟩) nb cq)).setCell ⟨p.g,8,none⟩ (.slice (some ⟨w4.heap.size,0,none⟩) nb nb)).heap.size=w4.heap.size:=by simp[World.setCell]
  rw[hs]at h1;exact h1
 ·exact Blk.alloc (Blk.far (Blk.far hI (by dsimp only;omega) _) (by dsimp only;omega) _) _
theorem zQl(base nb:Nat)(p:BrL)(most ticks:Int)(s:BrS)(w:World)(h:BrAt w base nb p most ticks s)(ho:s.ok nb)(hor:∀i,i<=nb->(gv {(if s.rounds=0 then zDa most nb s else s)with rounds:=(s.rounds+1)%ticks} i).ok nb)(hnb:1<=nb/\nb<=8)(hm:0<=most/\most<=1048576)(ht:1<=ticks/\ticks<=8)(hB:base<=w.heap.size):Calls prog 71 #[.pointer (some ⟨p.g,0,none⟩)] w (BrGives w base nb p most ticks (zEy most ticks nb s)):=by
 obtain⟨g,gw,gg,gs0,gq0,cq0,T0⟩:=p;dsimp only;have c0:w.cell? ⟨g,0,none⟩=some (.int .i64 nb):=h.blk.cell 0;have c1:w.cell? ⟨g,1,none⟩=some (.int .i64 most):=h.blk.cell 1;have c3:w.cell? ⟨g,3,none⟩=some (.int .i64 s.rounds):=h.blk.cell 3;have c4:w.cell? ⟨g,4,none⟩=some (.int .i64 s.reserve):=h.blk.cell 4;have hrd:=ho.rd;have hres:=ho.res;obtain⟨HX,HOR⟩:=uI h hor;obtain⟨i0,hi,hz0,hz1,hz2⟩:=zHd;have hmk:=λW=>dN (P:=prog) 22 3 i0 _ underlying22 hi hz0 .i64 .i64 nb nb (qA _) (by rw[hz2];omega) (by omega) W
 rw[hz1]at hmk;have HMK:=uT hmk;have hnb2:(nb:Int)<=8:=by omega
 clear h ho hor hmk;by_cases hz0':s.rounds=0
 ·have HF:=uT (show zEy most ticks nb s=(gv {zDa most nb s with rounds:=(s.rounds+1)%ticks} nb,(gv {zDa most nb s with rounds:=(s.rounds+1)%ticks} nb).given,s.reserve)by unfold zEy;simp only[if_pos hz0']);have hzb:(s.rounds==0)=true:=by simpa using hz0'
  simp only[if_pos hz0']at HOR;clear hz0';go_enter func71,ntmps71;go_wp2_with fail
  go_loopw [5,6] (λv i wr=>∃k:Nat,k<=nb/\i= .int .i64 k/\uS (wr.ownsRow w.heap.size 3 1 v k ((List.replicate k most).map (.int .i64)))/\uR w wr) (λ_ i _=>nb-(intOf i).toNat)
  case atStart=>exact⟨0,qL _,rfl,qH _ _ _ _,qC _ _⟩
  case round=>
   obtain⟨k,hk,rfl,HOW,hb⟩:=hrel;have HXr:=uT (HX.s.calm hb);have m0:wr.cell? ⟨g,0,none⟩=some (.int .i64 nb):=HXr.s.blk.cell 0;have m1:wr.cell? ⟨g,1,none⟩=some (.int .i64 most):=HXr.s.blk.cell 1;have hbs:=hb.size;have HB:=uT hb;obtain⟨A5,c5,rfl,hc5⟩:=bE HOW.s;clear c0 c1 c3 c4 hb;by_cases hlt:k<nb
   ·have hkn:(k:Int)<(nb:Int):=by omega
    have hmk8:(k+1)*8<=140737488355328:=by omega
    go_wp2_with(first
     |(at_builtin;(refine bF _ rfl (.tmp 26) (.tmp 31) _ rfl w.heap.size 3 i0 _ 1 8 underlying22 hi hz0 hz1 hz2 rfl (by omega) (by omega) _ _ _ HOW.s rfl _ 1 _ rfl rfl rfl (by simp[Value.oneCell']) hmk8 hbs ?_);intro g4 cap4 w4 hg4 hown4 hbel4 hgr4 hat4))
    obtain⟨HO4,HB4⟩:=uI (show w4.ownsRow w.heap.size 3 1 (.slice (some ⟨g4,0,none⟩) (k+1) cap4) (k+1) ((List.replicate (k+1) most).map (.int .i64))by rw[List.replicate_succ',jA];simpa using hown4) (hbel4 _ _ (qA _) HB.s);clear hown4 hbel4 hgr4 hat4 hg4;go_roundw
    case rel=>exact⟨k+1,by omega,by go_num,HO4,HB4.s⟩
    case measure=>simp[intOf];omega
   ·obtain rfl:k=nb:=by omega
    have hcap:=fH HOW.s;have m4:wr.cell? ⟨g,4,none⟩=some (.int .i64 s.reserve):=HXr.s.blk.cell 4;have HSP:=uT (zXf A5 k c5 (List.replicate k most) s.reserve wr.heap.size wr (by simp) hcap.2.1 hcap.2.2 (by omega) (Reads.of_own HOW.s) (qA _));rw[zRh s.reserve most k hres hm hnb.2]at HSP;clear hcap m1;go_wp2_with fail;refine HSP.s.mono ?_;rintro _ w4 ⟨v4,rfl,ho4,hb4⟩;obtain⟨q1,q2,q3⟩:=zFf s.reserve (List.replicate k most) hres.1 (λw hw=>by have:=jT hw;omega);rw[jB]at q1;dsimp only at ho4;rw[q1]at ho4;have HX4:=uT (HXr.s.calm hb4);obtain⟨gq,cq,T,hv,hgq,hgql,hX6⟩:=br_open HX4.s (B4:=wr.heap.size) (λa ha=>HXr.s.lt a ha) (qN hB hbs) ho4 hnb;subst hv;have HB4:=uT (HB.s.trans (hb4.mono hbs));have n0:w4.cell? ⟨g,0,none⟩=some (.int .i64 k):=HX4.s.blk.cell 0;have n8:w4.cell? ⟨g,8,none⟩=some (.slice (some ⟨gs0,0,none⟩) k k):=HX4.s.blk.cell 8;have n9:w4.cell? ⟨g,9,none⟩=some (.slice (some ⟨gq0,0,none⟩) k cq0):=HX4.s.blk.cell 9;have f8:w4.frozen? ⟨g,8,none⟩=false:=HX4.s.blk.frozen 8;have f9:w4.frozen? ⟨g,9,none⟩=false:=HX4.s.blk.frozen 9;have hglt:g<w4.heap.size:=HX4.s.blk.lt;have hgs4:w.heap.size<=w4.heap.size:=HB4.s.size;have hgq4:w.heap.size<=gq:=by omega
    have HX6:=uT hX6;have hmk:=HMK.s;clear ho4 hb4 q1 q2 q3 hgq hgql hX6;go_upto_region 11 with fail;obtain⟨wc,hwc⟩:=kB (((w4.setCell ⟨g,9,none⟩ (.slice (some ⟨gq,0,none⟩) k cq)).setCell ⟨g,8,none⟩ (.slice (some ⟨w4.heap.size,0,none⟩) k k)).alloc (.cells (madeCells #[Value.int .i64 0] k) 3));obtain⟨gs,s1,hGQ,hXc,hS1,hR1,hF⟩:∃gs s1,((gs=gs0\/w.heap.size<=gs)/\(gq=gq0\/w.heap.size<=gq))/\BrAt wc base k ⟨g,gw,gg,gs,gq,cq,T⟩ most ticks s1/\(∀i,i<=k->(gv {s1 with rounds:=(s.rounds+1)%ticks} i).ok k)/\s1.rounds=s.rounds/\zEy most ticks k s=(gv {s1 with rounds:=(s.rounds+1)%ticks} k,(gv {s1 with rounds:=(s.rounds+1)%ticks} k).given,s.reserve):=
     ⟨w4.heap.size,zDa most k s,⟨.inr hgs4,.inr hgq4⟩,by rw[hwc];exact HX6.s,HOR.s,rfl,HF.s⟩
    obtain⟨HGQ,HXC,HS1,HR1,HOC⟩:=uL hGQ hXc hS1 hR1 (show Only (BrL.has ⟨g,gw,gg,gs0,gq0,cq0,T0⟩) w wc by rw[hwc];exact Only.alloc (Only.setCell (Only.setCell (Only.of_below HB4.s λx h1 h2=>by omega) (λ_=> .inl rfl) _) (λ_=> .inl rfl) _) _);rw[<-hwc];obtain⟨rep,hrep⟩:∃rep:Int,rep=s.reserve:=⟨_,rfl⟩;rw[<-hrep]at hF;rw[<-hrep];clear HF;have HF:=uT hF;obtain⟨nb,rfl⟩:=kB k;clear hF hGQ hXc hS1 hR1 hrep hzb hwc n0 n8 n9 f8 f9 hmk hglt m0 m4;have d2:wc.cell? ⟨g,2,none⟩=some (.int .i64 ticks):=HXC.s.blk.cell 2;have d3:wc.cell? ⟨g,3,none⟩=some (.int .i64 s1.rounds):=HXC.s.blk.cell 3;have d3f:wc.frozen? ⟨g,3,none⟩=false:=HXC.s.blk.frozen 3;have hr1:=HR1.s;have hr2:0<=s1.rounds+1:=by omega
    have htm:Int.tmod (s1.rounds+1) ticks=(s1.rounds+1)%ticks:=Int.tmod_eq_emod_of_nonneg hr2;have htz:(ticks==0)=false:=by simp;omega
    have hwr:IntKind.i64.wrap (s1.rounds+1)=s1.rounds+1:=by rw[IntKind.wrap_i64];omega
    clear hr1;refine gW [] [0,1,2,3,4,5,6,7,8,9,10] [] [] 11 [12,13] (by kernel_rfl) (by kernel_rfl) (by intro c a d v w h;cases d<;>exact h) ?_;simp only[bB,qJ,qO,qD,qE];refine qF ?_
    repeat(go_big_quiet_step (fail))
    refine qF (qF ?_);rintro _ ⟨nq9,rfl⟩;simp only[fJ];go_upto_region 12 with fail;obtain⟨w5,hw5⟩:=kB ((wc.drewN nq9).setCell ⟨g,3,none⟩ (.int .i64 ((s1.rounds+1)%ticks)));obtain⟨s2,hs2⟩:=kB ({s1 with rounds:=(s.rounds+1)%ticks});have HX5:=uT (show BrAt w5 base nb ⟨g,gw,gg,gs,gq,cq,T⟩ most ticks s2 by have h:=HXC.s.only (D:=λ_=>False) ((Only.refl _ wc).drewN nq9) (λ_ _ e=>e);rw[hw5,hs2,<-HR1.s];exact⟨h.blk.set_ 3 _,Blk.far h.rw_ (Ne.symm h.ng.1) _,Blk.far h.rg (Ne.symm h.ng.2.1) _,Blk.far h.rs (Ne.symm h.ng.2.2.1) _,Blk.far h.rq (Ne.symm h.ng.2.2.2) _,h.cap,h.low,h.ne⟩)
    obtain⟨HO5,HS2⟩:=uI (show Only (BrL.has ⟨g,gw,gg,gs0,gq0,cq0,T0⟩) w w5 by rw[hw5];exact Only.setCell (HOC.s.drewN _) (λ_=> .inl rfl) _) (show∀i,i<=nb->(gv s2 i).ok nb by rw[hs2];exact HS1.s);rw[<-hs2]at HF;rw[<-hw5];clear hw5 hs2 d2 d3 d3f hr2 htm htz hwr;go_wp2_with fail
    go_loopw [7] (λi wr=>∃k:Nat,k<=nb/\i= .int .i64 k/\uS (BrAt wr base nb ⟨g,gw,gg,gs,gq,cq,T⟩ most ticks (gv s2 k))/\uS (Only (BrL.has ⟨g,gw,gg,gs,gq,cq,T⟩) w5 wr)) (λi _=>nb-(intOf i).toNat)
    case atStart=>exact⟨0,qL _,rfl,HX5,Only.refl _ _⟩
    case round=>
     obtain⟨k,hk,rfl,HXR,HOR5⟩:=hrel;obtain⟨wo,rfl⟩:=kB wr;have m0:wo.cell? ⟨g,0,none⟩=some (.int .i64 nb):=HXR.s.blk.cell 0;by_cases hlt:k<nb
     ·have ht:=HS2.s k (by omega);have ht2:=HS2.s (k+1) (by omega);obtain⟨t,htt⟩:=kB (gv s2 k);have hnx:gv s2 (k+1)=fC t k:=by rw[htt];rfl
      rw[<-htt]at ht HXR;rw[hnx]at ht2;obtain⟨HT,HT2,HNX⟩:=uJ ht ht2 hnx;have hkn:(k:Int)<(nb:Int):=by omega
      clear ht ht2 hnx htt;go_wp2_with fail
      go_loopw [8] (λn8 W=>∃st:BrS,uS (BrAt W base nb ⟨g,gw,gg,gs,gq,cq,T⟩ most ticks st)/\uS (Only (BrL.has ⟨g,gw,gg,gs,gq,cq,T⟩) w5 W)/\uS (fC st k=fC t k/\st.ok nb)/\W.cell? ⟨gg,k,none⟩=some (.int .i64 (st.given.getD k 0))/\st.wants=t.wants) (λ_ W=>(t.wants.getD k 0-intOf ((W.cell? ⟨gg,k,none⟩).getD undef)).toNat)
      case atStart=>exact⟨t,HXR,HOR5,⟨rfl,HT.s⟩,IRow.cell HXR.s.rg (bX HT.s.lg hlt),rfl⟩
      case round=>
       obtain⟨st,HXI,HOI,HSI,a6,hwst⟩:=hrel;have hX:=HXI.s;have ht:=HSI.s.2;have hx:=ht.w _ (qB (bX ht.lw hlt));have hy:=ht.g k hlt;have hz:=ht.q k hlt;have hrr:=ht.res;have hrr2:=HT2.s.res;have hgv:(fC t k).reserve=(fC st k).reserve:=by rw[HSI.s.1]
       have hgr:(fC st k).reserve=st.reserve-st.due k:=rfl;have a5:wr.cell? ⟨gw,k,none⟩=some (.int .i64 (st.wants.getD k 0)):=IRow.cell hX.rw_ (bX ht.lw hlt);have a7:wr.cell? ⟨gs,k,none⟩=some (.int .i64 (st.since.getD k 0)):=IRow.cell hX.rs (bX ht.ls hlt);have a8:wr.cell? ⟨gq,k,none⟩=some (.int .i64 (st.quotas.getD k 0)):=IRow.cell hX.rq (bX ht.lq hlt);have m4:wr.cell? ⟨g,4,none⟩=some (.int .i64 st.reserve):=hX.blk.cell 4;have m6:wr.cell? ⟨g,6,none⟩=some (.slice (some ⟨gw,0,none⟩) nb nb):=hX.blk.cell 6;have m7:wr.cell? ⟨g,7,none⟩=some (.slice (some ⟨gg,0,none⟩) nb nb):=hX.blk.cell 7;have m8:wr.cell? ⟨g,8,none⟩=some (.slice (some ⟨gs,0,none⟩) nb nb):=hX.blk.cell 8;have m9:wr.cell? ⟨g,9,none⟩=some (.slice (some ⟨gq,0,none⟩) nb cq):=hX.blk.cell 9;have f4:wr.frozen? ⟨g,4,none⟩=false:=hX.blk.frozen 4;have f6:wr.frozen? ⟨gg,k,none⟩=false:=IRow.frozen hX.rg k;have f7:wr.frozen? ⟨gs,k,none⟩=false:=IRow.frozen hX.rs k;have n1:¬ g=gg:=hX.ng.2.1;have n2:¬ g=gs:=hX.ng.2.2.1;have n3:¬ gg=gs:=hX.ne.2.2.2.1;have n4:¬ gg=g:=λe=>n1 e.symm
       have n5:¬ gs=g:=λe=>n2 e.symm
       have n6:¬ gs=gg:=λe=>n3 e.symm
       have hdue:st.due k=if st.given.getD k 0<st.wants.getD k 0/\st.since.getD k 0<st.quotas.getD k 0 then min (st.wants.getD k 0-st.given.getD k 0) (st.quotas.getD k 0-st.since.getD k 0)else 0:=rfl
       obtain⟨HZR,HST⟩:=uI (λhd:st.due k=0=>show fC t k=st from by rw[<-HSI.s.1];exact zJp ht hlt hd) (λ(n1:Nat) x y z hx hy hz=>yCo (i:=k) (hX.only (D:=λ_=>False) ((Only.refl _ wr).drewN n1) λ_ _ e=>e) (by rw[ht.lg];exact hlt) (by rw[ht.ls];exact hlt) x y z hx hy hz);have HNEXT:=uT (show fC (fC st k) k=fC t k/\(fC st k).ok nb from by
        have h1:(fC st k).ok nb:=by rw[HSI.s.1];exact HT2.s
        exact⟨by rw[zJp h1 hlt (zVh ht hlt)];exact HSI.s.1,h1⟩)
       obtain⟨HGG,HWS⟩:=uI (show(fC st k).given.getD k 0=st.given.getD k 0+st.due k from by simp only[fC];rw[zFo (by rw[ht.lg];exact hlt),if_pos rfl]) hwst;rw[<-hwst];have HLG:=uT (show∀W',IRow W' gg (fC st k).given []->W'.cell? ⟨gg,k,none⟩=some (.int .i64 ((fC st k).given.getD k 0))from λW' h=>IRow.cell h (bX HNEXT.s.2.lg hlt));obtain⟨x,hxx⟩:=kB (st.wants.getD k 0);obtain⟨y,hyy⟩:=kB (st.given.getD k 0);obtain⟨z,hzz⟩:=kB (st.since.getD k 0);obtain⟨u,huu⟩:=kB (st.quotas.getD k 0);obtain⟨n,hnn⟩:=kB (st.due k);obtain⟨rs,hrs⟩:=kB st.reserve;rw[<-hxx]at a5 hx hdue hy;rw[<-hyy]at a6 hy hdue HST HGG;rw[<-hzz]at a7 hz hdue HST;rw[<-huu]at a8 hz hdue;rw[<-hrs]at m4 hrr HST hgr;rw[<-hnn]at hdue HST HZR HGG hgr;have hbb:rs-n<=1048576/\0<=rs-n:=by omega
       clear hX ht hwst hzz huu hnn hrs hgv hgr hrr2;by_cases c1:y<x
       ·by_cases c2:z<u
        ·rw[if_pos ⟨c1,c2⟩]at hdue;have hfin:∀m1:Nat,∀y' z' r',y'=y+n->z'=z+n->r'=rs-n->BrAt ((((wr.drewN m1).setCell ⟨gg,k,none⟩ (.int .i64 y')).setCell ⟨gs,k,none⟩ (.int .i64 z')).setCell ⟨g,4,none⟩ (.int .i64 r')) base nb ⟨g,gw,gg,gs,gq,cq,T⟩ most ticks (fC st k)/\Only (BrL.has ⟨g,gw,gg,gs,gq,cq,T⟩) w5 ((((wr.drewN m1).setCell ⟨gg,k,none⟩ (.int .i64 y')).setCell ⟨gs,k,none⟩ (.int .i64 z')).setCell ⟨g,4,none⟩ (.int .i64 r')):=λm1 y' z' r' h1 h2 h3=>⟨HST.s m1 y' z' r' h1 h2 h3,Only.setCell (Only.setCell (Only.setCell (HOI.s.drewN m1) (λ_=> .inr (.inr (.inl rfl))) _) (λ_=> .inr (.inr (.inr (.inl rfl)))) _) (λ_=> .inl rfl) _⟩
         have HFIN:=uT hfin;have hnp:0<n:=by omega
         clear hfin;rcases(show(x-y<=u-z/\n=x-y)\/(u-z<x-y/\n=u-z)by omega)with⟨hmin,hn2⟩|⟨hmin,hn2⟩
         all_goals
          subst hn2;have c1b:decide (y<x)=true:=decide_eq_true c1;have c2b:decide (z<u)=true:=decide_eq_true c2;obtain⟨HYY,HXX⟩:=uI hyy hxx;clear hdue hyy hxx;go_wp2_with fail;go_quiet (fail);obtain⟨nb1,rfl⟩:=kB nq;go_wp2_with fail;refine bV 30 (by kernel_rfl) (by kernel_rfl) ?_;simp only[qX,jE,qZ,jL]
          repeat(go_big_quiet_step (fail))
          refine qF ?_;rintro _ ⟨nq2,rfl⟩;go_wp2_with fail;go_roundw
          case rel=>exact⟨fC st k,uT (HFIN.s (nb1+nq2) _ _ _ rfl rfl rfl).1,uT (HFIN.s (nb1+nq2) _ _ _ rfl rfl rfl).2,uT HNEXT.s,HLG.s _ (HFIN.s (nb1+nq2) _ _ _ rfl rfl rfl).1.rg,rfl⟩
          case measure=>rw[HLG.s _ (HFIN.s (nb1+nq2) _ _ _ rfl rfl rfl).1.rg,a6,HGG.s,<-HXX.s];simp[intOf];omega
        ·have hn0:n=0:=by rw[hdue,if_neg λh=>c2 h.2]
         have c1b:decide (y<x)=true:=decide_eq_true c1;have c2b:decide (z<u)=false:=decide_eq_false c2;have HZ2:=uT (show st=gv s2 (k+1)by rw[HNX.s];exact(HZR.s hn0).symm);clear hn0 hdue hyy hxx;go_wp2_with fail;go_quiet (fail);go_wp2_with fail;go_roundw
         case rel=>exact⟨k+1,by omega,by go_num,uT (by rw[<-HZ2.s];exact HXI.s.only (D:=λ_=>False) ((Only.refl _ wr).drewN nq) λ_ _ e=>e),uT (HOI.s.drewN nq)⟩
         case measure=>simp[intOf];omega
       ·have hn0:n=0:=by rw[hdue,if_neg λh=>c1 h.1]
        have c1b:decide (y<x)=false:=decide_eq_false c1;have HZ2:=uT (show st=gv s2 (k+1)by rw[HNX.s];exact(HZR.s hn0).symm);clear hn0 hdue hyy hxx;go_wp2_with fail;go_quiet (fail);go_wp2_with fail;go_roundw
        case rel=>exact⟨k+1,by omega,by go_num,uT (by rw[<-HZ2.s];exact HXI.s.only (D:=λ_=>False) ((Only.refl _ wr).drewN nq) λ_ _ e=>e),uT (HOI.s.drewN nq)⟩
        case measure=>simp[intOf];omega
     ·obtain rfl:k=nb:=by omega
      have ht:=HS2.s k (qA _);have hX:=HXR.s;have m7:wo.cell? ⟨g,7,none⟩=some (.slice (some ⟨gg,0,none⟩) k k):=hX.blk.cell 7;have HOA:=uT (show Only (BrL.has ⟨g,gw,gg,gs0,gq0,cq0,T0⟩) w wo from HO5.s.trans HOR5.s (λa ha h=>by
       rcases h with h|h|h|h|h
       ·exact .inl h
       ·exact .inr (.inl h)
       ·exact .inr (.inr (.inl h))
       ·rcases HGQ.s.1 with h2|h2
        ·exact .inr (.inr (.inr (.inl (h.trans h2))))
        ·dsimp only at h;omega
       ·rcases HGQ.s.2 with h2|h2
        ·exact .inr (.inr (.inr (.inr (h.trans h2))))
        ·dsimp only at h;omega))
      have HRD:=uT (show Reads wo wo.heap.size 1 (some ⟨gg,0,none⟩) k ((gv s2 k).given.map (.int .i64))from IRow.reads hX.rg ht.lg);have h63:0+k<=maxLen:=by unfold maxLen;omega
      have hby:(0+k)*8<=140737488355328:=by omega
      clear ht hX;go_wp2_with(first
       |(at_builtin;(refine fL _ rfl (.const (.slice none 0 0)) (.tmp 168) _ rfl wo.heap.size 3 i0 _ 1 8 underlying22 hi hz0 hz1 hz2 rfl (by omega) (.slice none 0 0) 0 _ rfl (qH _ _ _ _) wo.heap.size (some ⟨gg,0,none⟩) k k ((gv s2 k).given.map (.int .i64)) rfl HRD.s (zFn .i64 (gv s2 k).given) h63 hby (qA _) ?_);intro v6 w6 hown6 hg6 _;have hb6:uR wo w6:=⟨hg6.os,hg6.tape,hg6.output,hg6.size,λk hk=>hg6.block k hk (by simp[Value.ownBlock])⟩;have HO6:=uT (show w6.ownsRow wo.heap.size 3 1 v6 k ((gv s2 k).given.map (.int .i64))by simpa using hown6);have HB6:=uT hb6;clear hown6 hg6 hb6))
      obtain⟨A9,c9,rfl,_⟩:=bE HO6.s;go_ret2;rw[HF.s];refine⟨⟨g,gw,gg,gs,gq,cq,T⟩,A9,c9,rfl,dU HO6.s HOA.s.size,HXR.s.calm HB6.s,rfl,λa h=> ?_,HOA.s.calm HB6.s,λq hq hh=>by have h1:=(HO6.s.lt q hq).1;have h2:=HXR.s.lt q hh;omega⟩;rcases h with h|h|h|h|h
      ·exact .inl (.inl h)
      ·exact .inl (.inr (.inl h))
      ·exact .inl (.inr (.inr (.inl h)))
      ·rcases HGQ.s.1 with h2|h2
       ·exact .inl (.inr (.inr (.inr (.inl (h.trans h2)))))
       ·exact .inr (by dsimp only at h;omega)
      ·rcases HGQ.s.2 with h2|h2
       ·exact .inl (.inr (.inr (.inr (.inr (h.trans h2)))))
       ·exact .inr (by dsimp only at h;omega)
 ·have HF:=uT (show zEy most ticks nb s=(gv {s with rounds:=(s.rounds+1)%ticks} nb,(gv {s with rounds:=(s.rounds+1)%ticks} nb).given,-1)by unfold zEy;simp only[if_neg hz0']);have hzb:(s.rounds==0)=false:=by simpa using hz0'
  simp only[if_neg hz0']at HOR;go_enter func71,ntmps71;go_upto_region 11 with fail;obtain⟨wc,hwc⟩:=kB w;obtain⟨gs,gq,cq,T,s1,hGQ,hXc,hS1,hR1,hF⟩:∃gs gq cq T s1,((gs=gs0\/w.heap.size<=gs)/\(gq=gq0\/w.heap.size<=gq))/\BrAt wc base nb ⟨g,gw,gg,gs,gq,cq,T⟩ most ticks s1/\(∀i,i<=nb->(gv {s1 with rounds:=(s.rounds+1)%ticks} i).ok nb)/\s1.rounds=s.rounds/\zEy most ticks nb s=(gv {s1 with rounds:=(s.rounds+1)%ticks} nb,(gv {s1 with rounds:=(s.rounds+1)%ticks} nb).given,-1):=
   ⟨gs0,gq0,cq0,T0,s,⟨.inl rfl,.inl rfl⟩,by rw[hwc];exact HX.s,HOR.s,rfl,HF.s⟩
  obtain⟨HGQ,HXC,HS1,HR1,HOC⟩:=uL hGQ hXc hS1 hR1 (show Only (BrL.has ⟨g,gw,gg,gs0,gq0,cq0,T0⟩) w wc by rw[hwc];exact Only.refl _ _);obtain⟨rep,hrep⟩:∃rep:Int,rep= -1:=⟨_,rfl⟩;rw[<-hrep]at hF;rw[<-hrep];clear HF;have HF:=uT hF;have hcw:uS (wc=w):=hwc;clear hF hGQ hXc hS1 hR1 hrep c0 c1 c3 c4 hzb hz0';rw[<-hwc];clear hwc;have d2:wc.cell? ⟨g,2,none⟩=some (.int .i64 ticks):=HXC.s.blk.cell 2;have d3:wc.cell? ⟨g,3,none⟩=some (.int .i64 s1.rounds):=HXC.s.blk.cell 3;have d3f:wc.frozen? ⟨g,3,none⟩=false:=HXC.s.blk.frozen 3;have hr1:=HR1.s;have hr2:0<=s1.rounds+1:=by omega
  have htm:Int.tmod (s1.rounds+1) ticks=(s1.rounds+1)%ticks:=Int.tmod_eq_emod_of_nonneg hr2;have htz:(ticks==0)=false:=by simp;omega
  have hwr:IntKind.i64.wrap (s1.rounds+1)=s1.rounds+1:=by rw[IntKind.wrap_i64];omega
  clear hr1;refine gW [] [0,1,2,3,4,5,6,7,8,9,10] [] [] 11 [12,13] (by kernel_rfl) (by kernel_rfl) (by intro c a d v w h;cases d<;>exact h) ?_;simp only[bB,qJ,qO,qD,qE];refine qF ?_
  repeat(go_big_quiet_step (fail))
  refine qF (qF ?_);rintro _ ⟨nq9,rfl⟩;simp only[fJ];go_upto_region 12 with fail;obtain⟨w5,hw5⟩:=kB ((wc.drewN nq9).setCell ⟨g,3,none⟩ (.int .i64 ((s1.rounds+1)%ticks)));obtain⟨s2,hs2⟩:=kB ({s1 with rounds:=(s.rounds+1)%ticks});have HX5:=uT (show BrAt w5 base nb ⟨g,gw,gg,gs,gq,cq,T⟩ most ticks s2 by have h:=HXC.s.only (D:=λ_=>False) ((Only.refl _ wc).drewN nq9) (λ_ _ e=>e);rw[hw5,hs2,<-HR1.s];exact⟨h.blk.set_ 3 _,Blk.far h.rw_ (Ne.symm h.ng.1) _,Blk.far h.rg (Ne.symm h.ng.2.1) _,Blk.far h.rs (Ne.symm h.ng.2.2.1) _,Blk.far h.rq (Ne.symm h.ng.2.2.2) _,h.cap,h.low,h.ne⟩)
  obtain⟨HO5,HS2⟩:=uI (show Only (BrL.has ⟨g,gw,gg,gs0,gq0,cq0,T0⟩) w w5 by rw[hw5];exact Only.setCell (HOC.s.drewN _) (λ_=> .inl rfl) _) (show∀i,i<=nb->(gv s2 i).ok nb by rw[hs2];exact HS1.s);rw[<-hs2]at HF;rw[<-hw5];clear hw5 hs2 d2 d3 d3f hr2 htm htz hwr;go_wp2_with fail
  go_loopw [7] (λi wr=>∃k:Nat,k<=nb/\i= .int .i64 k/\uS (BrAt wr base nb ⟨g,gw,gg,gs,gq,cq,T⟩ most ticks (gv s2 k))/\uS (Only (BrL.has ⟨g,gw,gg,gs,gq,cq,T⟩) w5 wr)) (λi _=>nb-(intOf i).toNat)
  case atStart=>exact⟨0,qL _,rfl,HX5,Only.refl _ _⟩
  case round=>
   obtain⟨k,hk,rfl,HXR,HOR5⟩:=hrel;obtain⟨wo,rfl⟩:=kB wr;have m0:wo.cell? ⟨g,0,none⟩=some (.int .i64 nb):=HXR.s.blk.cell 0;by_cases hlt:k<nb
   ·have ht:=HS2.s k (by omega);have ht2:=HS2.s (k+1) (by omega);obtain⟨t,htt⟩:=kB (gv s2 k);have hnx:gv s2 (k+1)=fC t k:=by rw[htt];rfl
    rw[<-htt]at ht HXR;rw[hnx]at ht2;obtain⟨HT,HT2,HNX⟩:=uJ ht ht2 hnx;have hkn:(k:Int)<(nb:Int):=by omega
    clear ht ht2 hnx htt;go_wp2_with fail
    go_loopw [8] (λn8 W=>∃st:BrS,uS (BrAt W base nb ⟨g,gw,gg,gs,gq,cq,T⟩ most ticks st)/\uS (Only (BrL.has ⟨g,gw,gg,gs,gq,cq,T⟩) w5 W)/\uS (fC st k=fC t k/\st.ok nb)/\W.cell? ⟨gg,k,none⟩=some (.int .i64 (st.given.getD k 0))/\st.wants=t.wants) (λ_ W=>(t.wants.getD k 0-intOf ((W.cell? ⟨gg,k,none⟩).getD undef)).toNat)
    case atStart=>exact⟨t,HXR,HOR5,⟨rfl,HT.s⟩,IRow.cell HXR.s.rg (bX HT.s.lg hlt),rfl⟩
    case round=>
     obtain⟨st,HXI,HOI,HSI,a6,hwst⟩:=hrel;have hX:=HXI.s;have ht:=HSI.s.2;have hx:=ht.w _ (qB (bX ht.lw hlt));have hy:=ht.g k hlt;have hz:=ht.q k hlt;have hrr:=ht.res;have hrr2:=HT2.s.res;have hgv:(fC t k).reserve=(fC st k).reserve:=by rw[HSI.s.1]
     have hgr:(fC st k).reserve=st.reserve-st.due k:=rfl;have a5:wr.cell? ⟨gw,k,none⟩=some (.int .i64 (st.wants.getD k 0)):=IRow.cell hX.rw_ (bX ht.lw hlt);have a7:wr.cell? ⟨gs,k,none⟩=some (.int .i64 (st.since.getD k 0)):=IRow.cell hX.rs (bX ht.ls hlt);have a8:wr.cell? ⟨gq,k,none⟩=some (.int .i64 (st.quotas.getD k 0)):=IRow.cell hX.rq (bX ht.lq hlt);have m4:wr.cell? ⟨g,4,none⟩=some (.int .i64 st.reserve):=hX.blk.cell 4;have m6:wr.cell? ⟨g,6,none⟩=some (.slice (some ⟨gw,0,none⟩) nb nb):=hX.blk.cell 6;have m7:wr.cell? ⟨g,7,none⟩=some (.slice (some ⟨gg,0,none⟩) nb nb):=hX.blk.cell 7;have m8:wr.cell? ⟨g,8,none⟩=some (.slice (some ⟨gs,0,none⟩) nb nb):=hX.blk.cell 8;have m9:wr.cell? ⟨g,9,none⟩=some (.slice (some ⟨gq,0,none⟩) nb cq):=hX.blk.cell 9;have f4:wr.frozen? ⟨g,4,none⟩=false:=hX.blk.frozen 4;have f6:wr.frozen? ⟨gg,k,none⟩=false:=IRow.frozen hX.rg k;have f7:wr.frozen? ⟨gs,k,none⟩=false:=IRow.frozen hX.rs k;have n1:¬ g=gg:=hX.ng.2.1;have n2:¬ g=gs:=hX.ng.2.2.1;have n3:¬ gg=gs:=hX.ne.2.2.2.1;have n4:¬ gg=g:=λe=>n1 e.symm
     have n5:¬ gs=g:=λe=>n2 e.symm
     have n6:¬ gs=gg:=λe=>n3 e.symm
     have hdue:st.due k=if st.given.getD k 0<st.wants.getD k 0/\st.since.getD k 0<st.quotas.getD k 0 then min (st.wants.getD k 0-st.given.getD k 0) (st.quotas.getD k 0-st.since.getD k 0)else 0:=rfl
     obtain⟨HZR,HST⟩:=uI (λhd:st.due k=0=>show fC t k=st from by rw[<-HSI.s.1];exact zJp ht hlt hd) (λ(n1:Nat) x y z hx hy hz=>yCo (i:=k) (hX.only (D:=λ_=>False) ((Only.refl _ wr).drewN n1) λ_ _ e=>e) (by rw[ht.lg];exact hlt) (by rw[ht.ls];exact hlt) x y z hx hy hz);have HNEXT:=uT (show fC (fC st k) k=fC t k/\(fC st k).ok nb from by
      have h1:(fC st k).ok nb:=by rw[HSI.s.1];exact HT2.s
      exact⟨by rw[zJp h1 hlt (zVh ht hlt)];exact HSI.s.1,h1⟩)
     obtain⟨HGG,HWS⟩:=uI (show(fC st k).given.getD k 0=st.given.getD k 0+st.due k from by simp only[fC];rw[zFo (by rw[ht.lg];exact hlt),if_pos rfl]) hwst;rw[<-hwst];have HLG:=uT (show∀W',IRow W' gg (fC st k).given []->W'.cell? ⟨gg,k,none⟩=some (.int .i64 ((fC st k).given.getD k 0))from λW' h=>IRow.cell h (bX HNEXT.s.2.lg hlt));obtain⟨x,hxx⟩:=kB (st.wants.getD k 0);obtain⟨y,hyy⟩:=kB (st.given.getD k 0);obtain⟨z,hzz⟩:=kB (st.since.getD k 0);obtain⟨u,huu⟩:=kB (st.quotas.getD k 0);obtain⟨n,hnn⟩:=kB (st.due k);obtain⟨rs,hrs⟩:=kB st.reserve;rw[<-hxx]at a5 hx hdue hy;rw[<-hyy]at a6 hy hdue HST HGG;rw[<-hzz]at a7 hz hdue HST;rw[<-huu]at a8 hz hdue;rw[<-hrs]at m4 hrr HST hgr;rw[<-hnn]at hdue HST HZR HGG hgr;have hbb:rs-n<=1048576/\0<=rs-n:=by omega
     clear hX ht hwst hzz huu hnn hrs hgv hgr hrr2;by_cases c1:y<x
     ·by_cases c2:z<u
      ·rw[if_pos ⟨c1,c2⟩]at hdue;have hfin:∀m1:Nat,∀y' z' r',y'=y+n->z'=z+n->r'=rs-n->BrAt ((((wr.drewN m1).setCell ⟨gg,k,none⟩ (.int .i64 y')).setCell ⟨gs,k,none⟩ (.int .i64 z')).setCell ⟨g,4,none⟩ (.int .i64 r')) base nb ⟨g,gw,gg,gs,gq,cq,T⟩ most ticks (fC st k)/\Only (BrL.has ⟨g,gw,gg,gs,gq,cq,T⟩) w5 ((((wr.drewN m1).setCell ⟨gg,k,none⟩ (.int .i64 y')).setCell ⟨gs,k,none⟩ (.int .i64 z')).setCell ⟨g,4,none⟩ (.int .i64 r')):=λm1 y' z' r' h1 h2 h3=>⟨HST.s m1 y' z' r' h1 h2 h3,Only.setCell (Only.setCell (Only.setCell (HOI.s.drewN m1) (λ_=> .inr (.inr (.inl rfl))) _) (λ_=> .inr (.inr (.inr (.inl rfl)))) _) (λ_=> .inl rfl) _⟩
       have HFIN:=uT hfin;have hnp:0<n:=by omega
       clear hfin;rcases(show(x-y<=u-z/\n=x-y)\/(u-z<x-y/\n=u-z)by omega)with⟨hmin,hn2⟩|⟨hmin,hn2⟩
       all_goals
        subst hn2;have c1b:decide (y<x)=true:=decide_eq_true c1;have c2b:decide (z<u)=true:=decide_eq_true c2;obtain⟨HYY,HXX⟩:=uI hyy hxx;clear hdue hyy hxx;go_wp2_with fail;go_quiet (fail);obtain⟨nb1,rfl⟩:=kB nq;go_wp2_with fail;refine bV 30 (by kernel_rfl) (by kernel_rfl) ?_;simp only[qX,jE,qZ,jL]
        repeat(go_big_quiet_step (fail))
        refine qF ?_;rintro _ ⟨nq2,rfl⟩;go_wp2_with fail;go_roundw
        case rel=>exact⟨fC st k,uT (HFIN.s (nb1+nq2) _ _ _ rfl rfl rfl).1,uT (HFIN.s (nb1+nq2) _ _ _ rfl rfl rfl).2,uT HNEXT.s,HLG.s _ (HFIN.s (nb1+nq2) _ _ _ rfl rfl rfl).1.rg,rfl⟩
        case measure=>rw[HLG.s _ (HFIN.s (nb1+nq2) _ _ _ rfl rfl rfl).1.rg,a6,HGG.s,<-HXX.s];simp[intOf];omega
      ·have hn0:n=0:=by rw[hdue,if_neg λh=>c2 h.2]
       have c1b:decide (y<x)=true:=decide_eq_true c1;have c2b:decide (z<u)=false:=decide_eq_false c2;have HZ2:=uT (show st=gv s2 (k+1)by rw[HNX.s];exact(HZR.s hn0).symm);clear hn0 hdue hyy hxx;go_wp2_with fail;go_quiet (fail);go_wp2_with fail;go_roundw
       case rel=>exact⟨k+1,by omega,by go_num,uT (by rw[<-HZ2.s];exact HXI.s.only (D:=λ_=>False) ((Only.refl _ wr).drewN nq) λ_ _ e=>e),uT (HOI.s.drewN nq)⟩
       case measure=>simp[intOf];omega
     ·have hn0:n=0:=by rw[hdue,if_neg λh=>c1 h.1]
      have c1b:decide (y<x)=false:=decide_eq_false c1;have HZ2:=uT (show st=gv s2 (k+1)by rw[HNX.s];exact(HZR.s hn0).symm);clear hn0 hdue hyy hxx;go_wp2_with fail;go_quiet (fail);go_wp2_with fail;go_roundw
      case rel=>exact⟨k+1,by omega,by go_num,uT (by rw[<-HZ2.s];exact HXI.s.only (D:=λ_=>False) ((Only.refl _ wr).drewN nq) λ_ _ e=>e),uT (HOI.s.drewN nq)⟩
      case measure=>simp[intOf];omega
   ·obtain rfl:k=nb:=by omega
    have ht:=HS2.s k (qA _);have hX:=HXR.s;have m7:wo.cell? ⟨g,7,none⟩=some (.slice (some ⟨gg,0,none⟩) k k):=hX.blk.cell 7;have HOA:=uT (show Only (BrL.has ⟨g,gw,gg,gs0,gq0,cq0,T0⟩) w wo from HO5.s.trans HOR5.s (λa ha h=>by
     rcases h with h|h|h|h|h
     ·exact .inl h
     ·exact .inr (.inl h)
     ·exact .inr (.inr (.inl h))
     ·rcases HGQ.s.1 with h2|h2
      ·exact .inr (.inr (.inr (.inl (h.trans h2))))
      ·dsimp only at h;omega
     ·rcases HGQ.s.2 with h2|h2
      ·exact .inr (.inr (.inr (.inr (h.trans h2))))
      ·dsimp only at h;omega))
    have HRD:=uT (show Reads wo wo.heap.size 1 (some ⟨gg,0,none⟩) k ((gv s2 k).given.map (.int .i64))from IRow.reads hX.rg ht.lg);have h63:0+k<=maxLen:=by unfold maxLen;omega
    have hby:(0+k)*8<=140737488355328:=by omega
    clear ht hX;go_wp2_with(first
     |(at_builtin;(refine fL _ rfl (.const (.slice none 0 0)) (.tmp 168) _ rfl wo.heap.size 3 i0 _ 1 8 underlying22 hi hz0 hz1 hz2 rfl (by omega) (.slice none 0 0) 0 _ rfl (qH _ _ _ _) wo.heap.size (some ⟨gg,0,none⟩) k k ((gv s2 k).given.map (.int .i64)) rfl HRD.s (zFn .i64 (gv s2 k).given) h63 hby (qA _) ?_);intro v6 w6 hown6 hg6 _;have hb6:uR wo w6:=⟨hg6.os,hg6.tape,hg6.output,hg6.size,λk hk=>hg6.block k hk (by simp[Value.ownBlock])⟩;have HO6:=uT (show w6.ownsRow wo.heap.size 3 1 v6 k ((gv s2 k).given.map (.int .i64))by simpa using hown6);have HB6:=uT hb6;clear hown6 hg6 hb6))
    obtain⟨A9,c9,rfl,_⟩:=bE HO6.s;go_ret2;rw[HF.s];refine⟨⟨g,gw,gg,gs,gq,cq,T⟩,A9,c9,rfl,dU HO6.s HOA.s.size,HXR.s.calm HB6.s,rfl,λa h=> ?_,HOA.s.calm HB6.s,λq hq hh=>by have h1:=(HO6.s.lt q hq).1;have h2:=HXR.s.lt q hh;omega⟩;rcases h with h|h|h|h|h
    ·exact .inl (.inl h)
    ·exact .inl (.inr (.inl h))
    ·exact .inl (.inr (.inr (.inl h)))
    ·rcases HGQ.s.1 with h2|h2
     ·exact .inl (.inr (.inr (.inr (.inl (h.trans h2)))))
     ·exact .inr (by dsimp only at h;omega)
    ·rcases HGQ.s.2 with h2|h2
     ·exact .inl (.inr (.inr (.inr (.inr (h.trans h2)))))
     ·exact .inr (by dsimp only at h;omega)
def Beside(ticks:Int)(nb:Nat)(K:Int)(r:BrS):Prop:=∃s:BkS,zBk ticks nb s r/\s.ok nb K
theorem yBu{most ticks:Int}{nb:Nat}{s:BkS}{r:BrS}{K:Int}(h:zBk ticks nb s r)(ho:s.ok nb K)(hm:0<=most/\most<=1048576):zBk ticks nb (zEt most s) (zDa most nb r):=by
 obtain⟨g1,g2,g3⟩:=zFf s.reserve (List.replicate s.wants.length most) ho.res.1 (λw hw=>by have:=jT hw;omega);rw[ho.lw]at g1 g2;rw[jB]at g1;have hz:∀i,(List.replicate nb (0:Int)).getD i 0=0:=λi=>by rw[qG,jV];split<;>rfl
 refine⟨h.rd,h.res,h.all,h.w,h.g,by simp[zDa],by simp only[zDa];rw[h.res];exact g1,λi hi=> ?_,λi hi=> ?_⟩
 ·simp only[zEt,zDa];rw[hz,h.res,ho.lw];omega
 ·simp only[zDa];rw[hz,h.res];have:=g2 _ (qB (bX g1 hi));omega
theorem yHg{most ticks:Int}{nb:Nat}{K:Int}{r:BrS}(h:Beside ticks nb K r)(hm:0<=most/\most<=1048576)(ht:1<=ticks/\ticks<=8):r.ok nb/\∀i,i<=nb->(gv {(if r.rounds=0 then zDa most nb r else r)with rounds:=(r.rounds+1)%ticks} i).ok nb:=by
 obtain⟨s,h1,h2⟩:=h;refine⟨brs_ok h1 h2 ht,λi hi=> ?_⟩;have hrd:(r.rounds+1)%ticks=(s.round+1)%ticks:=by rw[h1.rd];simp[Int.add_emod]
 have key:∀(t:BkS) (u:BrS),zBk ticks nb t u->t.ok nb K->(gv {u with rounds:=(r.rounds+1)%ticks} i).ok nb:=λt u hs ht'=>by have h0:({t with round:=s.round+1}:BkS).ok nb (K+1):=⟨ht'.lw,ht'.lg,ht'.lq,(show 0<=s.round+1/\s.round+1<=K+1 by have:=h2.rd;omega),ht'.res,ht'.w,ht'.g,ht'.gw,ht'.q,ht'.qs⟩;have hs0:zBk ticks nb ({t with round:=s.round+1}:BkS) ({u with rounds:=(r.rounds+1)%ticks}:BrS):=⟨hrd,hs.res,hs.all,hs.w,hs.g,hs.ls,hs.lq,hs.q,hs.bd⟩;exact brs_ok (zTw hs0 h0 i hi) (zHs h0 i hi) ht
 split
 ·exact key _ _ (yBu h1 h2 hm) (zMa h2 hm)
 ·exact key _ _ h1 h2
end Go.Proofs.YtbolcebmbpepdaaGreatDoor
