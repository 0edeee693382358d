/- Contracts. Conditions: those each states. -/
import Derived.Test.YtbolcebmbpepdaaGreatDoorM26
namespace Go.Proofs.YtbolcebmbpepdaaGreatDoor
set_option maxRecDepth 100000
set_option maxHeartbeats 8000000
set_option linter.all false
open Go.RowKit Tryz
section
variable {w:World}{c:Cfg}{y:fD}{S:WS}{K base:Nat}{ow:Nat->Tag}
set_option maxRecDepth 1000000 in
theorem yFx(h:RW w c y S K base ow)(N:Nat)(hS:S.ok c N)(hN:N<=10000)(hK:K<1000)(s:StpI)(i:Nat)(hi:i<c.n)(hw:s.who=i)(hk:1<=s.kind/\s.kind<=6):Calls prog 25 #[.pointer (some ⟨y.hb,0,none⟩),s.val] w (StepR w c y (K+1) base ow (stepW c S s)):=by
 have hbr:=(bJ h.may).1.1;have HE:=uT (show stepW c S s=fF c S s i by unfold stepW;rw[if_neg (by omega),if_neg (by omega),if_neg (by omega),if_neg (by omega),if_neg (by rw[hw,hbr];omega),hw,qQ])
 obtain⟨⟨hn,hn1,hn8⟩,hln,htk,hm3,hcap,hla,hmi⟩:=bJ h.may;obtain⟨sb,hsb⟩:=kB w.heap.size;obtain⟨qb,hqb⟩:=kB (w.heap.size+1);obtain⟨wx,hwx⟩:=kB ((w.alloc (.cells s.cells.toArray 48)).alloc (.cells (bQ 0 0).cells.toArray 57));have hX:=StT.of (s:=s) h;rw[<-hwx,<-hqb,<-hsb]at hX;have hxs:w.heap.size<=wx.heap.size:=hX.kept.only.size;obtain⟨HX,HWX,HIX⟩:=uJ hX hwx (And.intro hsb hqb);have hqx:=hX.ql;clear hwx hsb hqb hxs hqx hn;obtain⟨HS,HHW⟩:=uI hS hw;have s1:wx.cell? ⟨sb,1,none⟩=some (.int .i64 (i:Int)):=by rw[<-hw];exact hX.sk.cell 1
 have s0:wx.cell? ⟨sb,0,none⟩=some (.int .i64 s.kind):=hX.sk.cell 0;have c0:=hX.pw.cfgs.1;have b1:decide (s.kind<1)=false:=by simp;omega
 have b2:decide (s.kind>11)=false:=by simp;omega
 have a9:(s.kind==9)=false:=by simp;omega
 have a10:(s.kind==10)=false:=by simp;omega
 have a11:(s.kind==11)=false:=by simp;omega
 have b3:decide ((i:Int)<0)=false:=by simp
 have b4:decide (c.br<=(i:Int))=false:=by rw[hbr];simp;omega
 clear hX h hS hbr hw hla hln hn1 hn8;have e0:s.val= .agg #[.int .i64 s.kind,.int .i64 s.who,.int .i64 s.item,.int .i64 s.count,.int .i64 s.life,.int .i64 s.id,.int .i64 s.label,.int .i64 s.key]:=rfl;rw[e0];clear e0;go_enter func25,ntmps25;go_upto_region 1 with fail;rw[zAa,zLj s,<-HWX.s,<-HIX.s.2,<-HIX.s.1];go_upto_region 7 with fail;refine wp_region_quiet_lit (by as_aux_lemma=>kernel_rfl) (by as_aux_lemma=>kernel_rfl) ?_
 repeat(go_big_quiet_step (fail))
 refine qF ?_;rintro _ ⟨nq,rfl⟩;have HX2:=uT (HX.s.calm (below_drewN (qC _ wx) nq));clear c0 s0 s1 HX HWX;generalize wx.drewN nq=w2 at HX2⊢;go_upto_region 9 with fail;have s1:w2.cell? ⟨sb,1,none⟩=some (.int .i64 (i:Int)):=by rw[<-HHW.s];exact HX2.s.sk.cell 1
 go_cut [5]from 46 to 48 (λs5 W=>∃tb,s5= .pointer (some ⟨tb,0,none⟩)/\uS (CT w c y base ow sb qb tb s 0 i Stk.none 0 K S W ow))
 case first=>go_wp2_with fail;go_meet;exact⟨_,rfl,uT (CT.of HX2.s i)⟩
 case rest=>
  obtain⟨tb,rfl,HC⟩:=hcut;clear s1 HX2;have s0:wc.cell? ⟨sb,0,none⟩=some (.int .i64 s.kind):=HC.s.st.sk.cell 0;go_upto_region 10 with fail;have a7:(s.kind==7)=false:=by simp;omega
  have a8:(s.kind==8)=false:=by simp;omega
  go_upto_region 23 with fail;have c3:=HC.s.st.pw.cfgs.2.2.2.1;have hmin:c.mi.n=c.m:=HC.s.st.pw.cfg.2.1.1.symm;rw[hmin]at c3;clear s0 hmin;by_cases hrng:s.item<0\/(c.m:Int)<=s.item
  ·have HB:=uT (show stepW c S s=(bY 2 i,S)by rw[HE.s];unfold fF;rw[if_neg (by omega),if_pos hrng])
   have s2:wc.cell? ⟨sb,2,none⟩=some (.int .i64 s.item):=HC.s.st.sk.cell 2;have hd:(decide (s.item<0)=true)\/(decide (s.item<0)=false/\decide ((c.m:Int)<=s.item)=true):=by simp only[decide_eq_true_eq,decide_eq_false_iff_not];omega
   rcases hd with p1|⟨p1,p2⟩
   all_goals
    refine wp_region_quiet_lit (by as_aux_lemma=>kernel_rfl) (by as_aux_lemma=>kernel_rfl) ?_
    repeat(go_big_quiet_step (fail))
    refine qF ?_;rintro _ ⟨nq,rfl⟩;have H3:=uT (HC.s.calm (below_drewN (qC _ wc) nq));clear c3 s2;generalize wc.drewN nq=w3 at H3⊢;have z0:w3.cell? ⟨tb,0,none⟩=some (.int .i64 0):=H3.s.tk.cell 0;have f0:=H3.s.tk.frozen 0;go_upto_region 25 with fail;have H8:=uT (H3.s.code 2);clear z0 f0;generalize w3.setCell ⟨tb,0,none⟩ (.int .i64 2)=w8 at H8⊢;have HT:=uT H8.s.st;obtain⟨z0,z1,z2,z3,z4,z5,z6,z7,z8,z9,z10⟩:=dM H8.s.tk;unfold zAz at z0 z1 z2 z3 z4 z5 z6 z7 z8 z9 z10;dsimp only[Stk.none]at z0 z1 z2 z3 z4 z5 z6 z7 z8 z9 z10;obtain⟨_,_,_,_,_,_,_,_,_,_,_⟩:=bW HT.s.qk;obtain⟨_,_,_,_,_,_,_,_,_,_,_⟩:=bS HT.s.qk;go_wp2_with fail;refine dC (w:=w8) (t:=(zAz 2 i Stk.none 0)) HT.s.qk rfl λw9 HO9=> ?_
    replace HO9:=uT HO9;exact H8.s.fin (by rw[HB.s];rfl) (jD K) HO9.s
  ·obtain⟨k,hkk⟩:=qP (show 0<=s.item by omega);have hkm:k<c.m:=by omega
   have hkm':(k:Int)<(c.m:Int):=by omega
   have p1:decide ((k:Int)<0)=false:=by simp
   have p2:decide ((c.m:Int)<=(k:Int))=false:=by simpa using hkm
   have p2':decide (c.m<=k)=false:=by simpa using hkm
   have s2:wc.cell? ⟨sb,2,none⟩=some (.int .i64 (k:Int)):=by rw[<-hkk];exact HC.s.st.sk.cell 2
   have HKK:=uT hkk;clear hrng hkk;refine wp_region_quiet_lit (by as_aux_lemma=>kernel_rfl) (by as_aux_lemma=>kernel_rfl) ?_
   repeat(go_big_quiet_step (fail))
   refine qF ?_;rintro _ ⟨nq,rfl⟩;have H3:=uT (HC.s.calm (below_drewN (qC _ wc) nq));clear c3 s2;generalize wc.drewN nq=w3 at H3⊢;go_upto_region 26 with fail;have hi':(i:Int)<(c.n:Int):=by omega
   have s0:w3.cell? ⟨sb,0,none⟩=some (.int .i64 s.kind):=H3.s.st.sk.cell 0;by_cases h1:s.kind=1
   ·have a1:(s.kind==1)=true:=by simpa using h1
    obtain⟨z,hz⟩:∃z,(S.ask i)[k]? =some z:=⟨_,qI (by rw[(HS.s.ask i).1];exact hkm)⟩;have hzb:=(HS.s.ask i).2 z (qB hz);have HE2:=uT (show stepW c S s=(if s.count<1\/1048576<s.count then(bY 2 i,S)else if 1048576<z+s.count then(bY 12 i,S)else(bY 0 i,{S with ask:=bN S.ask i ((S.ask i).set k (z+s.count))}))by have hk2:=HKK.s;rw[HE.s];unfold fF;rw[if_neg (by omega),if_neg (by omega),if_pos h1,hk2,qQ,getD_at hz])
    have HZ:=uT hz;have s3:w3.cell? ⟨sb,3,none⟩=some (.int .i64 s.count):=H3.s.st.sk.cell 3;clear hz;by_cases hc:s.count<1\/1048576<s.count
    ·have HB:=uT (HE2.s.trans (if_pos hc));have hd:decide (s.count<1)=true\/(decide (s.count<1)=false/\decide (1048576<s.count)=true):=by simp only[decide_eq_true_eq,decide_eq_false_iff_not];omega
     clear hc;rcases hd with q1|⟨q1,q2⟩
     all_goals
      have z0:w3.cell? ⟨tb,0,none⟩=some (.int .i64 0):=H3.s.tk.cell 0;have f0:=H3.s.tk.frozen 0;go_upto_region 32 with fail;have H8:=uT (H3.s.code 2);clear z0 f0;generalize w3.setCell ⟨tb,0,none⟩ (.int .i64 2)=w8 at H8⊢;have HT:=uT H8.s.st;obtain⟨z0,z1,z2,z3,z4,z5,z6,z7,z8,z9,z10⟩:=dM H8.s.tk;unfold zAz at z0 z1 z2 z3 z4 z5 z6 z7 z8 z9 z10;dsimp only[Stk.none]at z0 z1 z2 z3 z4 z5 z6 z7 z8 z9 z10;obtain⟨_,_,_,_,_,_,_,_,_,_,_⟩:=bW HT.s.qk;obtain⟨_,_,_,_,_,_,_,_,_,_,_⟩:=bS HT.s.qk;go_wp2_with fail;refine dC (w:=w8) (t:=(zAz 2 i Stk.none 0)) HT.s.qk rfl λw9 HO9=> ?_
      replace HO9:=uT HO9;exact H8.s.fin (by rw[HB.s];rfl) (jD K) HO9.s
    ·have q1:decide (s.count<1)=false:=by simp;omega
     have q2:decide (1048576<s.count)=false:=by simp;omega
     have hcb:1<=s.count/\s.count<=1048576:=by omega
     rw[if_neg hc]at HE2;clear hc;go_upto_region 29 with fail;have l6:=H3.s.st.pw.l6;have ra:=H3.s.st.pw.askAt hi;have rz:=(H3.s.st.pw.pc (.ask i) hi).row.cell HZ.s;have s1:w3.cell? ⟨sb,1,none⟩=some (.int .i64 (i:Int)):=by rw[<-HHW.s];exact H3.s.st.sk.cell 1
     have s2:w3.cell? ⟨sb,2,none⟩=some (.int .i64 (k:Int)):=by rw[<-HKK.s];exact H3.s.st.sk.cell 2
     refine wp_region_quiet_lit (by as_aux_lemma=>kernel_rfl) (by as_aux_lemma=>kernel_rfl) ?_
     repeat(go_big_quiet_step (fail))
     refine qF ?_;rintro _ ⟨nq,rfl⟩;have HWQ:=uT (below_drewN (qC w3.heap.size w3) nq);obtain⟨H4,T⟩:=uI (H3.s.calm HWQ.s) (And.intro l6 (And.intro ra (And.intro rz (And.intro s1 (And.intro s2 s3)))));clear l6 ra rz s0 s1 s2 s3;generalize w3.drewN nq=w4 at H4 HWQ⊢;by_cases ho:1048576<z+s.count
     ·have a3:decide (1048576<z+s.count)=true:=by simpa using ho
      rw[a3];have HB:=uT (HE2.s.trans (if_pos ho));clear ho;have z0:w4.cell? ⟨tb,0,none⟩=some (.int .i64 0):=H4.s.tk.cell 0;have f0:=H4.s.tk.frozen 0;go_upto_region 32 with fail;have H8:=uT (H4.s.code 12);clear z0 f0;generalize w4.setCell ⟨tb,0,none⟩ (.int .i64 12)=w8 at H8⊢;have HT:=uT H8.s.st;obtain⟨z0,z1,z2,z3,z4,z5,z6,z7,z8,z9,z10⟩:=dM H8.s.tk;unfold zAz at z0 z1 z2 z3 z4 z5 z6 z7 z8 z9 z10;dsimp only[Stk.none]at z0 z1 z2 z3 z4 z5 z6 z7 z8 z9 z10;obtain⟨_,_,_,_,_,_,_,_,_,_,_⟩:=bW HT.s.qk;obtain⟨_,_,_,_,_,_,_,_,_,_,_⟩:=bS HT.s.qk;go_wp2_with fail;refine dC (w:=w8) (t:=(zAz 12 i Stk.none 0)) HT.s.qk rfl λw9 HO9=> ?_
      replace HO9:=uT HO9;exact H8.s.fin (by rw[HB.s];rfl) (jD K) HO9.s
     ·have a3:decide (1048576<z+s.count)=false:=by simpa using ho
      rw[a3];have HB:=uT (HE2.s.trans (if_neg ho));clear ho;go_upto_region 31 with fail;have e0:=λm:Ext w4=>m.cell ((⟨w4,HWQ.s⟩:Ext w3).cell T.s.1)
      have e1:=λm:Ext w4=>m.cell ((⟨w4,HWQ.s⟩:Ext w3).cell T.s.2.1)
      have e2:=λm:Ext w4=>m.cell ((⟨w4,HWQ.s⟩:Ext w3).cell T.s.2.2.1)
      have e3:=λm:Ext w4=>m.cell ((⟨w4,HWQ.s⟩:Ext w3).cell T.s.2.2.2.1)
      have e4:=λm:Ext w4=>m.cell ((⟨w4,HWQ.s⟩:Ext w3).cell T.s.2.2.2.2.1)
      have e5:=λm:Ext w4=>m.cell ((⟨w4,HWQ.s⟩:Ext w3).cell T.s.2.2.2.2.2)
      refine bR [] [0,1,2,3,4,5,6,7,8,9,10,11,12,13,14,15] [] [] 16 [] (by as_aux_lemma=>kernel_rfl) (by as_aux_lemma=>kernel_rfl) (by intro c a d v w h;cases d<;>exact h) ?_;simp only[bC,qK,qN,qD,qE];refine qF ?_
      repeat(go_big_quiet_step (fail))
      refine qF (qF ?_);clear e0 e1 e2 e3 e4 e5;rintro W1 ⟨nq,hW⟩;have hWB:uR w4 W1:=hW▸nq.h;clear hW;simp only[fN];have h5:=H4.s.calm hWB;have hg:=h5.st.pw.pc (.ask i) hi;have fz:=hg.row.frozen k;have cz:=hg.row.cell HZ.s;obtain⟨ow6,h6,_⟩:=(h5.st.pw.setAsk hi (show k<(S.ask i).length by rw[(HS.s.ask i).1];exact hkm) (z+s.count)).runC h5;have H6:=uT h6;clear h5 hg h6 hWB;go_upto_region 32 with fail;clear fz cz;generalize W1.setCell ⟨y.a i,k,none⟩ (.int .i64 (z+s.count))=w6 at H6⊢;have HT:=uT H6.s.st;obtain⟨z0,z1,z2,z3,z4,z5,z6,z7,z8,z9,z10⟩:=dM H6.s.tk;unfold zAz at z0 z1 z2 z3 z4 z5 z6 z7 z8 z9 z10;dsimp only[Stk.none]at z0 z1 z2 z3 z4 z5 z6 z7 z8 z9 z10;obtain⟨_,_,_,_,_,_,_,_,_,_,_⟩:=bW HT.s.qk;obtain⟨_,_,_,_,_,_,_,_,_,_,_⟩:=bS HT.s.qk;go_wp2_with fail;refine dC (w:=w6) (t:=(zAz 0 i Stk.none 0)) HT.s.qk rfl λw9 HO9=> ?_
      replace HO9:=uT HO9;exact H6.s.fin (by rw[HB.s];rfl) (jD K) HO9.s
   ·have a1:(s.kind==1)=false:=by simpa using h1
    obtain⟨r,hr⟩:=kB ((S.sh i k).does ⟨s.kind,s.count,s.life,s.id⟩);have HB:=uT (show stepW c S s=(⟨r.2.code,i,{r.2 with code:=0},0,[],[],[]⟩,{S with sh:=bN S.sh i (bN (S.sh i) k r.1)})by have hk2:=HKK.s;rw[HE.s];unfold fF;rw[if_neg (by omega),if_neg (by omega),if_neg h1,hk2,qQ,hr])
    have HDO:=uT (λW (hW:uR w3 W)=>zMy ⟨s.kind,s.count,s.life,s.id⟩ i k (H3.s.calm hW).st.pw hi hkm N (HS.s.sh i k) (by omega) (jD K) λr h=>zLn h _);rw[<-hr]at HDO;unfold Ordr.val at HDO;dsimp only at HDO;have hd:(s.kind=2/\(s.kind==2)=true)\/(s.kind=3/\(s.kind==2)=false/\(s.kind==3)=true)\/(s.kind=4/\(s.kind==2)=false/\(s.kind==3)=false/\(s.kind==4)=true)\/(s.kind=5/\(s.kind==2)=false/\(s.kind==3)=false/\(s.kind==4)=false/\(s.kind==5)=true)\/(s.kind=6/\(s.kind==2)=false/\(s.kind==3)=false/\(s.kind==4)=false/\(s.kind==5)=false):=by simp only[beq_iff_eq,beq_eq_false_iff_ne];omega
    clear hr;obtain⟨r1,⟨rc,ri,rf,rh,ru⟩⟩:=r;unfold Stk.val at HDO;dsimp only at HDO HB
    go_upto_block 1 with fail
    go_cut [6]from 257 to 264 (λv W=>v= .int .i64 s.kind/\W=w3)
    case first=>
     rcases hd with⟨hq,q1⟩|⟨hq,q1,q2⟩|⟨hq,q1,q2,q3⟩|⟨hq,q1,q2,q3,q4⟩|⟨hq,q1,q2,q3,q4⟩
     all_goals
      go_wp2_with fail;go_meet;exact⟨by rw[hq],rfl⟩
    case rest=>
     obtain⟨rfl,rfl⟩:=hcut;clear s0;go_upto_region 44 with fail;have l5:=H3.s.st.pw.l5;have rk:=H3.s.st.pw.rackAt hi;have e0:=λm:Ext wc=>m.cell l5
     have e1:=λm:Ext wc=>m.cell rk
     have e2:=λm:Ext wc=>m.cell (show wc.cell? ⟨sb,1,none⟩=some (.int .i64 (i:Int))by rw[<-HHW.s];exact H3.s.st.sk.cell 1)
     have e3:=λm:Ext wc=>m.cell (show wc.cell? ⟨sb,2,none⟩=some (.int .i64 (k:Int))by rw[<-HKK.s];exact H3.s.st.sk.cell 2)
     have e4:=λm:Ext wc=>m.cell (show wc.cell? ⟨sb,3,none⟩=some (.int .i64 s.count)from H3.s.st.sk.cell 3)
     have e5:=λm:Ext wc=>m.cell (show wc.cell? ⟨sb,4,none⟩=some (.int .i64 s.life)from H3.s.st.sk.cell 4)
     have e6:=λm:Ext wc=>m.cell (show wc.cell? ⟨sb,5,none⟩=some (.int .i64 s.id)from H3.s.st.sk.cell 5)
     clear l5 rk
     go_cut []from 265 to 285 (λW=>uS (∃ow',CT w c y base ow sb qb tb s 0 i ⟨rc,ri,rf,rh,ru⟩ 0 (K+1) {S with sh:=bN S.sh i (bN (S.sh i) k r1)} W ow'))
     case first=>
      refine bR [] [0,1,2,3,4,5,6,7,8,9,10,11,12,13,14,15,16,17,18] [] [] 19 [20,21] (by as_aux_lemma=>kernel_rfl) (by as_aux_lemma=>kernel_rfl) (by intro c a d v w h;cases d<;>exact h) ?_;simp only[bC,qK,qN,qD,qE];refine qF ?_
      repeat(go_big_quiet_step (fail))
      refine qF (qF ?_);clear e0 e1 e2 e3 e4 e5 e6;rintro W1 ⟨nq,hW⟩;have hWB:uR wc W1:=hW▸nq.h;clear hW;simp only[fN];have h5:=H3.s.calm hWB;go_wp2_with fail;refine(HDO.s W1 hWB).mono ?_;rintro _ w5 ⟨rfl,ht⟩;obtain⟨ow6,h6,_⟩:=ht.runC h5;obtain⟨z0,z1,z2,z3,z4,z5,z6,z7,z8,z9,z10⟩:=dM h6.tk;obtain⟨f0,f1,f2,f3,f4,f5,f6,f7,f8,f9,f10⟩:=bS h6.tk;have H6:=uT h6;clear h5 h6 ht hWB HDO;go_wp2_with fail;go_meet;exact uT ⟨ow6,H6.s.stock ⟨rc,ri,rf,rh,ru⟩⟩
     case rest=>
      obtain⟨ow6,h6⟩:=hcut.s;have z0:wc.cell? ⟨tb,0,none⟩=some (.int .i64 0):=h6.tk.cell 0;have z2:wc.cell? ⟨tb,2,none⟩=some (.int .i64 rc):=h6.tk.cell 2;have f0:=h6.tk.frozen 0;have f2:=h6.tk.frozen 2;have H8:=uT ((h6.code rc).scode 0);clear h6 e0 e1 e2 e3 e4 e5 e6;go_upto_region 47 with fail;clear z0 z2 f0 f2;generalize(wc.setCell ⟨tb,0,none⟩ (.int .i64 rc)).setCell ⟨tb,2,none⟩ (.int .i64 0)=w8 at H8⊢;have HT:=uT H8.s.st;obtain⟨z0,z1,z2,z3,z4,z5,z6,z7,z8,z9,z10⟩:=dM H8.s.tk;unfold zAz at z0 z1 z2 z3 z4 z5 z6 z7 z8 z9 z10;dsimp only[Stk.none]at z0 z1 z2 z3 z4 z5 z6 z7 z8 z9 z10;obtain⟨_,_,_,_,_,_,_,_,_,_,_⟩:=bW HT.s.qk;obtain⟨_,_,_,_,_,_,_,_,_,_,_⟩:=bS HT.s.qk;go_wp2_with fail;refine dC (w:=w8) (t:=(zAz rc i ⟨0,ri,rf,rh,ru⟩ 0)) HT.s.qk rfl λw9 HO9=> ?_
      replace HO9:=uT HO9;exact H8.s.fin (by rw[HB.s];rfl) (qA _) HO9.s
end
def StR(c:Cfg)(y:Lay)(i p:Nat)(cs:Array Value)(W:World):Prop:=W.cell? ⟨y.hb,5,none⟩=some (.slice (some ⟨y.bb,0,none⟩) c.n y.bc)/\W.cell? ⟨y.bb,i,none⟩=some (.pointer (some ⟨(y.br i).b,0,none⟩))/\Blk W p 48 cs
def StCut(w:World)(c:Cfg)(y:Lay)(K base:Nat)(ow:Nat->Tag)(p q b:Nat)(cs:Array Value)(r:zCc×WS)(t:Tol)(W:World):Prop:=
 ∃ow',PW W c y r.2 K base ow'/\Kept w W ow ow'/\ow' q= .no/\ow' b= .no/\w.heap.size<=b/\b≠q/\b≠p/\Blk W q 57 (bQ 0 0).cells.toArray/\Blk W b 57 t.cells.toArray/\Blk W p 48 cs/\TolNo t ow'/\t.d=r.1/\(∀v,(v=Value.slice t.sA t.sn t.sc\/v=Value.slice t.fA t.fn t.fc\/v=Value.slice t.rA t.rn t.rc)->v.ownBlock≠some b)/\∃B,TolOwn t W B/\q<B/\w.heap.size<=B
def yBy:OT:= .fork (.next 10 (.next 11 (.next 12 .done))) (.next 11 (.next 10 (.next 12 .done)))
section
variable {w W:World}{c:Cfg}{y:Lay}{S:WS}{K base:Nat}{ow:Nat->Tag}
theorem zIz{S':WS}{ow':Nat->Tag}{i p:Nat}{cs:Array Value}(hp:PW W c y S' K base ow')(hi:i<c.n)(hk:Blk W p 48 cs):StR c y i p cs W:=by obtain⟨ds,h1,h2⟩:=(hp.pc .con).row;exact⟨(hp.pc .con).blk.cell 5,(h1.cell i).trans (h2 i hi),hk⟩
theorem zOn{t:Tol}{w w':World}{B b:Nat}{ow1:Nat->Tag}(h:TolOwn t w B)(hn:TolNo t ow1)(ho:Only (λk=>k=b) w w')(hb:∀v,(v=Value.slice t.sA t.sn t.sc\/v=Value.slice t.fA t.fn t.fc\/v=Value.slice t.rA t.rn t.rc)->v.ownBlock≠some b):TolOwn t w' B:=
 ⟨bK h.so ho (λg hg e=>hb _ (.inl rfl) (by rw[hg,e])),bK h.fo ho (λg hg e=>hb _ (.inr (.inl rfl)) (by rw[hg,e])),bK h.ro ho λg hg e=>hb _ (.inr (.inr rfl)) (by rw[hg,e])⟩
theorem zYx{w7:World}{ow7:Nat->Tag}{p q b B:Nat}{cs zs:Array Value}{r:zCc×WS}{t:Tol}(hp:PW w7 c y r.2 K base ow7)(hk:Kept w w7 ow ow7)(hq:ow7 q= .no)(hb:ow7 b= .no)(hbw:w.heap.size<=b)(hbq:b≠q)(hbp:b≠p)(hQ:Blk w7 q 57 (bQ 0 0).cells.toArray)(hB:Blk w7 b 57 zs)(hz:zs.size=11)(hP:Blk w7 p 48 cs)(hto:TolOwn t w7 B)(htn:TolNo t ow7)(hd:t.d=r.1)(hbB:∀v,(v=Value.slice t.sA t.sn t.sc\/v=Value.slice t.fA t.fn t.fc\/v=Value.slice t.rA t.rn t.rc)->v.ownBlock≠some b)(hw:base<=w.heap.size):∃ow',PW (wrT w7 b t) c y r.2 K base ow'/\Kept w (wrT w7 b t) ow ow'/\ow' q= .no/\ow' b= .no/\Blk (wrT w7 b t) q 57 (bQ 0 0).cells.toArray/\Blk (wrT w7 b t) b 57 t.cells.toArray/\Blk (wrT w7 b t) p 48 cs/\TolOwn t (wrT w7 b t) B/\TolNo t ow':=by have ho:=zDk w7 b t;refine⟨ow7,hp.own ho hb (qL hw hbw),⟨hk.only.trans ho (λx hx e=>by omega),hk.old⟩,hq,hb,hQ.only ho (λe=>hbq e.symm),zFm hB hz t,hP.only ho (λe=>hbp e.symm),zOn hto htn ho hbB,htn⟩
def whoT(t:Tol)(i:Int):Tol:={t with d:={t.d with who:=i}}
theorem yGk(t:Tol)(i:Int):t.cells.toArray.setIfInBounds 1 (.int .i64 i)=(whoT t i).cells.toArray:=by simp[Tol.cells,whoT]
theorem yEc(c:Cfg)(S:WS)(s:StpI)(i:Nat):(fI c S s i).1.who=i:=by
 unfold fI
 split
 ·rfl
 split
 ·rfl
 split
 ·rfl
 split<;>rfl
theorem yAl(c:Cfg)(S:WS)(s:StpI)(i:Nat):(fF c S s i).1.who=i:=by
 unfold fF
 split
 ·exact yEc c S s i
 split
 ·rfl
 split
 ·split
  ·rfl
  split<;>rfl
 ·rfl
theorem yFh(h:PW w c y S K base ow)(N:Nat)(hS:S.ok c N)(hN:N<=10000)(hK:K<1000000)(s:StpI)(hk:s.kind=9):Calls prog 40 #[.pointer (some ⟨y.hb,0,none⟩),s.val] w (fH w c y (K+1) base ow (stepW c S s)):=by
 have HE:=uT (show stepW c S s=zFw c S from if_pos hk);obtain⟨kind,who,item,count,life,id,label,key⟩:=s;dsimp only at hk;unfold StpI.val;dsimp only;obtain⟨wx,p,q,hp,hq,hwx,hbx,kp,kq,hx,s0,s1,s2,s3,s4,s5,s6,s7,hnq,hnp⟩:=zCv h kind who item count life id label key;have HNO:=uT (λe W=>fV e W);unfold bQ bY Tol.val Stk.none at HNO;dsimp only at HNO;obtain⟨HKQ,HBX,HP,HQ,HH,HWX,HNQ⟩:=uN kq hbx hp hq h hwx hnq;have hm3:=(bJ h.may).2.2.2.1;have HTI:=uT (tick_any hx N hS hN);clear hx kp kq hbx hp hq h hwx s1 s2 s3 s4 s5 s6 s7;have a9:(kind==9)=true:=by simp;omega
 clear hk;go_enter func40,ntmps40;go_upto_region 1 with fail;rw[zAa,<-HWX.s,<-HQ.s,<-HP.s];go_wp2_with fail;refine HTI.s.mono ?_;rintro _ w2 ⟨t,rfl,hd,hto,ow2,hp2,hk2,hn2⟩;obtain⟨HK2,HP2,HKK,HN2,HTO,HTN,HTD⟩:=uN (hk2.blk HKQ.s HNQ.s) (hp2.more (jD K)) ((Kept.calm HBX.s).trans hk2) (show ow2 q= .no from(hk2.old q HKQ.s.lt).trans HNQ.s) hto hn2 hd;unfold Tol.val;clear hp2 hk2 hto hn2 hd;obtain⟨_,_,_,_,_,_,_,_,_,_,_⟩:=bW HK2.s;obtain⟨_,_,_,_,_,_,_,_,_,_,_⟩:=bS HK2.s;go_wp2_with fail;refine dC (w:=w2) (t:=t) HK2.s rfl λw9 HO9=> ?_
 replace HO9:=uT HO9;refine(zAy HP2.s HKK.s HTO.s HKQ.s.lt HBX.s.size HO9.s (by rw[HQ.s];omega) HN2.s HTN.s (HTD.s.trans (by rw[HE.s])) (by rw[HE.s]) HH.s.bw)
theorem zXd(h:PW w c y S K base ow)(N:Nat)(hS:S.ok c N)(hN:N<=10000)(hK:K<1000000)(s:StpI)(hwf:(Lit.int .i64 s.id).wf=true)(hk:s.kind=10):Calls prog 40 #[.pointer (some ⟨y.hb,0,none⟩),s.val] w (fH w c y (K+1) base ow (stepW c S s)):=by
 have HE:=uT (show stepW c S s=fU c S s.id by unfold stepW;rw[if_neg (by omega),if_pos hk]);obtain⟨kind,who,item,count,life,id,label,key⟩:=s;dsimp only at hk;unfold StpI.val;dsimp only;obtain⟨wx,p,q,hp,hq,hwx,hbx,kp,kq,hx,s0,s1,s2,s3,s4,s5,s6,s7,hnq,hnp⟩:=zCv h kind who item count life id label key;have HNO:=uT (λe W=>fV e W);unfold bQ bY Tol.val Stk.none at HNO;dsimp only at HNO;obtain⟨HKQ,HBX,HP,HQ,HH,HWX,HNQ⟩:=uN kq hbx hp hq h hwx hnq;have hm3:=(bJ h.may).2.2.2.1;dsimp only at hwf HE;have HTI:=uT (zZw hx N hS hN hK id hwf);clear hx kp kq hbx hp hq h hwx s1 s2 s3 s4 s6 s7;have a9:(kind==9)=false:=by simp;omega
 have a10:(kind==10)=true:=by simp;omega
 clear hk;go_enter func40,ntmps40;go_upto_region 1 with fail;rw[zAa,<-HWX.s,<-HQ.s,<-HP.s];go_wp2_with fail;refine HTI.s.mono ?_;rintro _ w2 ⟨t,rfl,hd,hto,ow2,hp2,hk2,hn2⟩;obtain⟨HK2,HP2,HKK,HN2,HTO,HTN,HTD⟩:=uN (hk2.blk HKQ.s HNQ.s) (hp2) ((Kept.calm HBX.s).trans hk2) (show ow2 q= .no from(hk2.old q HKQ.s.lt).trans HNQ.s) hto hn2 hd;unfold Tol.val;clear hp2 hk2 hto hn2 hd;obtain⟨_,_,_,_,_,_,_,_,_,_,_⟩:=bW HK2.s;obtain⟨_,_,_,_,_,_,_,_,_,_,_⟩:=bS HK2.s;go_wp2_with fail;refine dC (w:=w2) (t:=t) HK2.s rfl λw9 HO9=> ?_
 replace HO9:=uT HO9;refine(zAy HP2.s HKK.s HTO.s HKQ.s.lt HBX.s.size HO9.s (by rw[HQ.s];omega) HN2.s HTN.s (HTD.s.trans (by rw[HE.s])) (by rw[HE.s]) HH.s.bw)
theorem yGz(h:PW w c y S K base ow)(N:Nat)(hS:S.ok c N)(hN:N<=10000)(hK:K<1000000)(s:StpI)(hwf:(Lit.int .i64 s.id).wf=true)(hk:s.kind=11):Calls prog 40 #[.pointer (some ⟨y.hb,0,none⟩),s.val] w (fH w c y (K+1) base ow (stepW c S s)):=by
 have HE:=uT (show stepW c S s=if fW S s.id=0 then(bY 0 0,S.lose s.id)else(bY (fW S s.id) 0,S)by unfold stepW;rw[if_neg (by omega),if_neg (by omega),if_pos hk]);obtain⟨kind,who,item,count,life,id,label,key⟩:=s;dsimp only at hk;unfold StpI.val;dsimp only;obtain⟨wx,p,q,hp,hq,hwx,hbx,kp,kq,hx,s0,s1,s2,s3,s4,s5,s6,s7,hnq,hnp⟩:=zCv h kind who item count life id label key;have HNO:=uT (λe W=>fV e W);unfold bQ bY Tol.val Stk.none at HNO;dsimp only at HNO;obtain⟨HX,HKP,HKQ,HBX,HP,HQ,HH,HWX,HNQ⟩:=uP hx kp kq hbx hp hq h hwx hnq;have hm3:=(bJ h.may).2.2.2.1;dsimp only at hwf HE;have hlen:S.lts.length<=1000000:=by have:=hS.len;omega
 have HDU:=uT (zOa hx id hwf hlen);clear hx kp kq hbx hp hq h hwx s1 s2 s3 s4 s6 s7;have a9:(kind==9)=false:=by simp;omega
 have a10:(kind==10)=false:=by simp;omega
 have a11:(kind==11)=true:=by simp;omega
 clear hk;obtain⟨e,he⟩:=kB (fW S id);rw[<-he]at HDU HE;clear he;go_enter func40,ntmps40;go_upto_region 1 with fail;rw[zAa,<-HWX.s,<-HQ.s,<-HP.s];go_wp2_with fail;refine HDU.s.mono ?_;rintro _ w2 ⟨rfl,hb2⟩;obtain⟨HX2,HK2,HP2,HB2⟩:=uK (HX.s.calm hb2) (HKQ.s.below hb2 HKQ.s.lt) (HKP.s.below hb2 HKP.s.lt) (HBX.s.trans (hb2.mono HBX.s.size));clear hb2 s0 s5;by_cases he:e=0
 ·subst he;have HEE:=uT (show stepW c S ⟨kind,who,item,count,life,id,label,key⟩=(bY 0 0,S.lose id)from HE.s.trans (if_pos rfl));go_upto_region 9 with fail;have c8:=λn:Ext w2=>n.cell (show w2.cell? ⟨y.hb,8,none⟩=some (.map (some y.lb))from(HX2.s.pc .con).blk.cell 8)
  have s5:=λn:Ext w2=>n.cell (show w2.cell? ⟨p,5,none⟩=some (.int .i64 id)from HP2.s.cell 5)
  refine fZ 6 (by kernel_rfl) (by kernel_rfl) ?_;simp only[qX,jC,qZ,jJ]
  repeat(go_big_quiet_step (fail))
  refine qF ?_;rintro _ ⟨nq,rfl⟩;have hq2:=nq.h;obtain⟨w3,hrun,ow3,hp3,hk3⟩:=PW.loseAt (HX2.s.calm hq2) hK id hwf;obtain⟨HK3,HN3,HP3,HKK⟩:=uK (hk3.blk (HK2.s.below hq2 HK2.s.lt) HNQ.s) (show ow3 q= .no from(hk3.old q (HK2.s.below hq2 HK2.s.lt).lt).trans HNQ.s) hp3 (((Kept.calm (ow:=ow) HB2.s).trans (Kept.calm hq2)).trans hk3);clear hp3 hk3 c8 s5 hq2;go_wp2_with fail;refine(HNO.s 0 w3).mono ?_;rintro _ w6 ⟨rfl,hb6⟩;obtain⟨HK6,HB6⟩:=uI (HK3.s.below hb6 HK3.s.lt) hb6;clear hb6;obtain⟨_,_,_,_,_,_,_,_,_,_,_⟩:=bW HK6.s;obtain⟨_,_,_,_,_,_,_,_,_,_,_⟩:=bS HK6.s;go_wp2_with fail;refine dC (w:=w6) (t:=(bQ 0 0)) HK6.s rfl λw9 HO9=> ?_
  replace HO9:=uT HO9;refine(zAy (HP3.s.calm HB6.s) (HKK.s.trans (Kept.calm HB6.s)) (zDl 0 0 w6 (q+1)) (Nat.lt_succ_self q) (by rw[HQ.s];omega) HO9.s (by rw[HQ.s];omega) HN3.s (zEr _ _ _) (by rw[HEE.s];rfl) (by rw[HEE.s]) HH.s.bw)
 ·have HEE:=uT (show stepW c S ⟨kind,who,item,count,life,id,label,key⟩=(bY e 0,S)from HE.s.trans (if_neg he));have he0:(e==0)=false:=by simpa using he
  go_wp2_with fail;refine(HNO.s e w2).mono ?_;rintro _ w6 ⟨rfl,hb6⟩;obtain⟨HK6,HB6⟩:=uI (HK2.s.below hb6 HK2.s.lt) hb6;clear hb6;obtain⟨_,_,_,_,_,_,_,_,_,_,_⟩:=bW HK6.s;obtain⟨_,_,_,_,_,_,_,_,_,_,_⟩:=bS HK6.s;go_wp2_with fail;refine dC (w:=w6) (t:=(bQ e 0)) HK6.s rfl λw9 HO9=> ?_
  replace HO9:=uT HO9;refine(zAy ((HX2.s.more (jD K)).calm HB6.s) ((Kept.calm HB2.s).trans (Kept.calm HB6.s)) (zDl e 0 w6 (q+1)) (Nat.lt_succ_self q) (by rw[HQ.s];omega) HO9.s (by rw[HQ.s];omega) HNQ.s (zEr _ _ _) (by rw[HEE.s];rfl) (by rw[HEE.s]) HH.s.bw)
theorem yGq(h:PW w c y S K base ow)(N:Nat)(hS:S.ok c N)(hN:N<=10000)(hK:K<1000000)(s:StpI)(hk:s.kind<1\/11<s.kind):Calls prog 40 #[.pointer (some ⟨y.hb,0,none⟩),s.val] w (fH w c y (K+1) base ow (stepW c S s)):=by
 have HE:=uT (show stepW c S s=(bY 3 0,S)by unfold stepW;rw[if_neg (by omega),if_neg (by omega),if_neg (by omega),if_pos hk]);obtain⟨kind,who,item,count,life,id,label,key⟩:=s;dsimp only at hk;unfold StpI.val;dsimp only;obtain⟨wx,p,q,hp,hq,hwx,hbx,kp,kq,hx,s0,s1,s2,s3,s4,s5,s6,s7,hnq,hnp⟩:=zCv h kind who item count life id label key;have HNO:=uT (λe W=>fV e W);unfold bQ bY Tol.val Stk.none at HNO;dsimp only at HNO;obtain⟨HX,HKQ,HBX,HP,HQ,HH,HWX,HNQ⟩:=uO hx kq hbx hp hq h hwx hnq;have hm3:=(bJ h.may).2.2.2.1;clear hx kp kq hbx hp hq h hwx s1 s2 s3 s4 s5 s6 s7;have a9:(kind==9)=false:=by simp;omega
 have a10:(kind==10)=false:=by simp;omega
 have a11:(kind==11)=false:=by simp;omega
 go_enter func40,ntmps40;go_upto_region 1 with fail;rw[zAa,<-HWX.s,<-HQ.s,<-HP.s];have hd:(decide (kind<1)=true)\/(decide (kind<1)=false/\decide (kind>11)=true):=by simp only[decide_eq_true_eq,decide_eq_false_iff_not];omega
 rcases hd with b1|⟨b1,b2⟩
 all_goals
  go_wp2_with fail;have HW:=uT (qC wx.heap.size wx);refine(HNO.s 3 wx).mono ?_;rintro _ w6 ⟨rfl,hb6⟩;obtain⟨HK6,HB6⟩:=uI (HKQ.s.below hb6 HKQ.s.lt) hb6;clear hb6;obtain⟨_,_,_,_,_,_,_,_,_,_,_⟩:=bW HK6.s;obtain⟨_,_,_,_,_,_,_,_,_,_,_⟩:=bS HK6.s;go_wp2_with fail;refine dC (w:=w6) (t:=(bQ 3 0)) HK6.s rfl λw9 HO9=> ?_
  replace HO9:=uT HO9;refine(zAy ((HX.s.more (jD K)).calm (HW.s.trans (HB6.s.mono HW.s.size))) ((Kept.calm HBX.s).trans (Kept.calm (HW.s.trans (HB6.s.mono HW.s.size)))) (zDl 3 0 w6 (q+1)) (Nat.lt_succ_self q) (by rw[HQ.s];omega) HO9.s (by rw[HQ.s];omega) HNQ.s (zEr _ _ _) (by rw[HE.s];rfl) (by rw[HE.s]) HH.s.bw)
theorem step_who(h:PW w c y S K base ow)(N:Nat)(hS:S.ok c N)(hN:N<=10000)(hK:K<1000000)(s:StpI)(hk:1<=s.kind/\s.kind<=8)(hb:s.who<0\/c.br<=s.who):Calls prog 40 #[.pointer (some ⟨y.hb,0,none⟩),s.val] w (fH w c y (K+1) base ow (stepW c S s)):=by
 have HE:=uT (show stepW c S s=(bY 2 0,S)by unfold stepW;rw[if_neg (by omega),if_neg (by omega),if_neg (by omega),if_neg (by omega),if_pos hb]);obtain⟨kind,who,item,count,life,id,label,key⟩:=s;dsimp only at hk;unfold StpI.val;dsimp only;obtain⟨wx,p,q,hp,hq,hwx,hbx,kp,kq,hx,s0,s1,s2,s3,s4,s5,s6,s7,hnq,hnp⟩:=zCv h kind who item count life id label key;have HNO:=uT (λe W=>fV e W);unfold bQ bY Tol.val Stk.none at HNO;dsimp only at HNO;obtain⟨HX,HKQ,HBX,HP,HQ,HH,HWX,HNQ⟩:=uO hx kq hbx hp hq h hwx hnq;have hm3:=(bJ h.may).2.2.2.1;dsimp only at hb;have h0:wx.cell? ⟨y.hb,0,none⟩=some (.int .i64 c.br):=(hx.pc .con).blk.cell 0;clear hx kp kq hbx hp hq h hwx s2 s3 s4 s5 s6 s7;have a9:(kind==9)=false:=by simp;omega
 have a10:(kind==10)=false:=by simp;omega
 have a11:(kind==11)=false:=by simp;omega
 have b1:decide (kind<1)=false:=by simp;omega
 have b2:decide (kind>11)=false:=by simp;omega
 have hd:(decide (who<0)=true)\/(decide (who<0)=false/\decide (c.br<=who)=true):=by simp only[decide_eq_true_eq,decide_eq_false_iff_not];omega
 go_enter func40,ntmps40;go_upto_region 1 with fail;rw[zAa,<-HWX.s,<-HQ.s,<-HP.s];rcases hd with b3|⟨b3,b4⟩
 all_goals
  go_upto_region 13 with fail;go_quiet (fail);obtain⟨HW,HK2⟩:=uI (below_drewN (qC wx.heap.size wx) nq) (HKQ.s.drewN nq);generalize wx.drewN nq=w2 at HW HK2⊢;clear s0 s1 h0;go_wp2_with fail;refine(HNO.s 2 w2).mono ?_;rintro _ w6 ⟨rfl,hb6⟩;obtain⟨HK6,HB6⟩:=uI (HK2.s.below hb6 HK2.s.lt) hb6;clear hb6;obtain⟨_,_,_,_,_,_,_,_,_,_,_⟩:=bW HK6.s;obtain⟨_,_,_,_,_,_,_,_,_,_,_⟩:=bS HK6.s;go_wp2_with fail;refine dC (w:=w6) (t:=(bQ 2 0)) HK6.s rfl λw9 HO9=> ?_
  replace HO9:=uT HO9;refine(zAy ((HX.s.more (jD K)).calm (HW.s.trans (HB6.s.mono HW.s.size))) ((Kept.calm HBX.s).trans (Kept.calm (HW.s.trans (HB6.s.mono HW.s.size)))) (zDl 2 0 w6 (q+1)) (Nat.lt_succ_self q) (by rw[HQ.s];omega) HO9.s (by rw[HQ.s];omega) HNQ.s (zEr _ _ _) (by rw[HE.s];rfl) (by rw[HE.s]) HH.s.bw)
theorem yAe(h:PW w c y S K base ow)(N:Nat)(hS:S.ok c N)(hN:N<=10000)(hK:K<1000000)(s:StpI)(hT:OrdT w)(hg:0<base)(i:Nat)(hi:i<c.n)(hw:s.who=i)(hk:1<=s.kind/\s.kind<=8):Calls prog 40 #[.pointer (some ⟨y.hb,0,none⟩),s.val] w (fH w c y (K+1) base ow (stepW c S s)):=by
 have hbrn:=(bJ h.may).1.1;obtain⟨HE,HWHO⟩:=uI (show stepW c S s=fF c S s i by unfold stepW;rw[if_neg (by omega),if_neg (by omega),if_neg (by omega),if_neg (by omega),if_neg (by rw[hw,hbrn];omega),hw,qQ]) (yAl c S s i);obtain⟨kind,who,item,count,life,id,label,key⟩:=s;dsimp only at hk;unfold StpI.val;dsimp only;obtain⟨wx,p,q,hp,hq,hwx,hbx,kp,kq,hx,s0,s1,s2,s3,s4,s5,s6,s7,hnq,hnp⟩:=zCv h kind who item count life id label key;have HNO:=uT (λe W=>fV e W);unfold bQ bY Tol.val Stk.none at HNO;dsimp only at HNO;obtain⟨HX,HKP,HKQ,HBX,HP,HQ,HH,HWX,HNQ,HNP⟩:=uQ hx kp kq hbx hp hq h hwx hnq hnp;have hm3:=(bJ h.may).2.2.2.1;dsimp only at hw;subst hw;have HCL:=uT (λW (hW:uR wx W)=>yEd (hx.calm hW) N hS (by omega) (OrdT.below hT hg ((hbx.trans (hW.mono hbx.size)).mono h.bw)) hg ⟨kind,i,item,count,life,id,label,key⟩ i hi rfl hk);generalize fF c S ⟨kind,i,item,count,life,id,label,key⟩ i=r at HCL HE HWHO;unfold StpI.val at HCL;dsimp only at HCL;have h0:wx.cell? ⟨y.hb,0,none⟩=some (.int .i64 c.br):=(hx.pc .con).blk.cell 0;rw[hbrn]at h0;clear hx kp kq hbx hp hq h hwx hbrn;have a9:(kind==9)=false:=by simp;omega
 have a10:(kind==10)=false:=by simp;omega
 have a11:(kind==11)=false:=by simp;omega
 have b1:decide (kind<1)=false:=by simp;omega
 have b2:decide (kind>11)=false:=by simp;omega
 have b3:decide ((i:Int)<0)=false:=by simp
 have b4:decide ((c.n:Int)<=(i:Int))=false:=by simp;omega
 have b5:decide (c.n<=i)=false:=by simp;omega
 have hin:(i:Int)<(c.n:Int):=by omega
 go_enter func40,ntmps40;go_upto_region 1 with fail;rw[zAa,<-HWX.s,<-HQ.s,<-HP.s];go_upto_region 13 with fail;go_quiet (fail);have HW:=uT (below_drewN (qC wx.heap.size wx) nq);generalize wx.drewN nq=w2 at HW⊢;clear s0 s1 s2 s3 s4 s5 s6 s7 h0;go_upto_region 15 with fail;obtain⟨cs,hcs⟩:∃cs:Array Value,cs=#[.int .i64 kind,.int .i64 (i:Int),.int .i64 item,.int .i64 count,.int .i64 life,.int .i64 id,.int .i64 label,.int .i64 key]:=⟨_,rfl⟩
 go_cut [6] (λs6 W=>∃bs,s6= .pointer (some ⟨bs,0,none⟩)/\uS (∃t,StCut w c y K base ow p q bs cs (zDy r.1,r.2) t W))
 case first=>
  have HKS:=uT (show Blk w2 p 48 cs by rw[hcs];exact HKP.s.below HW.s HKP.s.lt);have hR2:StR c y i p cs w2.drew:=zIz (HX.s.calm (HW.s.drew)) hi HKS.s.drew;have t0:=λn:zAt (StR c y i p cs)=>n.h.1
  have t9:=λn:zAt (StR c y i p cs)=>n.h.2.1
  have t1:∀n:zAt (StR c y i p cs),n.W.cell? ⟨p,0,none⟩=some (.int .i64 kind):=λn=>by rw[n.h.2.2.cell 0,hcs];rfl
  have t2:∀n:zAt (StR c y i p cs),n.W.cell? ⟨p,1,none⟩=some (.int .i64 (i:Int)):=λn=>by rw[n.h.2.2.cell 1,hcs];rfl
  have t3:∀n:zAt (StR c y i p cs),n.W.cell? ⟨p,2,none⟩=some (.int .i64 item):=λn=>by rw[n.h.2.2.cell 2,hcs];rfl
  have t4:∀n:zAt (StR c y i p cs),n.W.cell? ⟨p,3,none⟩=some (.int .i64 count):=λn=>by rw[n.h.2.2.cell 3,hcs];rfl
  have t5:∀n:zAt (StR c y i p cs),n.W.cell? ⟨p,4,none⟩=some (.int .i64 life):=λn=>by rw[n.h.2.2.cell 4,hcs];rfl
  have t6:∀n:zAt (StR c y i p cs),n.W.cell? ⟨p,5,none⟩=some (.int .i64 id):=λn=>by rw[n.h.2.2.cell 5,hcs];rfl
  have t7:∀n:zAt (StR c y i p cs),n.W.cell? ⟨p,6,none⟩=some (.int .i64 label):=λn=>by rw[n.h.2.2.cell 6,hcs];rfl
  have t8:∀n:zAt (StR c y i p cs),n.W.cell? ⟨p,7,none⟩=some (.int .i64 key):=λn=>by rw[n.h.2.2.cell 7,hcs];rfl
  haveI hne:Nonempty (zAt (StR c y i p cs)):=⟨⟨_,hR2⟩⟩;clear hcs;refine zEa (C:=λw'=>∃n:zAt (StR c y i p cs),w'=n.W) [0,1,2,3,4,5,6,7,8,9] [10,11,12] yBy (by kernel_rfl) (by kernel_rfl) (by intro c a d v w h;cases d<;>exact h) ⟨⟨_,hR2⟩,rfl⟩ ?_;simp only[bC,qK,qN,qD,qE]
  repeat(go_big_quiet_step (fail))
  refine qF ?_;have hd0:uR wx w2.drew:=HW.s.drew;have hPd:=HKS.s.drew;generalize w2.drew=wd at hd0 hPd hR2⊢;have hQd:=HKQ.s.below hd0 HKQ.s.lt;clear t0 t1 t2 t3 t4 t5 t6 t7 t8 t9 hR2;unfold yBy;refine zBa ?_ ?_
  ·refine bO λK0 hK0=> ?_
   simp only[bC,qK,qN,qD,qE];go_wp2_with fail;refine(HCL.s wd hd0).mono ?_;rintro _ w7 ⟨t,rfl,hd,hto,ow7,hp7,hk7,hn7⟩;have HDD:=uT hd;clear hd;have hkk:Kept w w7 ow ow7:=(Kept.calm (HBX.s.trans (hd0.mono HBX.s.size))).trans hk7;have hQ7:=hk7.blk hQd HNQ.s;have hP7:=hk7.blk hPd HNP.s;have hq7:ow7 q= .no:=(hk7.old q hQd.lt).trans HNQ.s;unfold Tol.val;go_wp2_with fail;refine hK0 _ w7 (λ_=>⟨⟨_,zIz hp7 hi hP7⟩,rfl⟩) ?_;clear hK0 K0;refine bO λK0 hK0=> ?_
   simp only[bC,qK,qN,qD,qE];go_wp2_with fail;rw[zAa];obtain⟨w8,hw8⟩:=kB (w7.alloc (.cells (bQ 0 0).cells.toArray 57));obtain⟨bs,hbs⟩:=kB w7.heap.size;have hb8:=uH hw8;have kb:Blk w8 bs 57 (bQ 0 0).cells.toArray:=by rw[hw8,hbs];exact Blk.new _ _ _
   have hs8:w8.heap.size=bs+1:=by rw[hw8,hbs];simp
   rw[<-hw8,<-hbs];have hPP:=hP7.below hb8 hP7.lt;have hQQ:=hQ7.below hb8 hQ7.lt;have hbw:w.heap.size<=bs:=by rw[hbs];exact hkk.only.size
   have hbq:bs≠q:=by have:=hQ7.lt;omega
   have hbp:bs≠p:=by have:=hP7.lt;omega
   have hto8:=hto.below hb8;have hnb:∀v,(v=Value.slice t.sA t.sn t.sc\/v=Value.slice t.fA t.fn t.fc\/v=Value.slice t.rA t.rn t.rc)->v.ownBlock≠some bs:=λv hv e=>by
    rcases hv with rfl|rfl|rfl
    ·have:=(hto.so.lt bs e).2;omega
    ·have:=(hto.fo.lt bs e).2;omega
    ·have:=(hto.ro.lt bs e).2;omega
   have hQs:=hQd.lt;refine hK0 _ w8 (λ_=>⟨⟨_,zIz (hp7.calm hb8) hi hPP⟩,rfl⟩) ?_;have hp8:=hp7.calm hb8;have hk8:=hkk.trans (Kept.calm (ow:=ow7) hb8);have hb7:ow7 bs= .no:=hp7.fresh bs (by omega);have hwd:w.heap.size<=wd.heap.size:=qL HBX.s.size hd0.size;clear hK0 K0 hw8 hbs;obtain⟨g0,g1,g2,g3,g4,g5,g6,g7,g8,g9,g10⟩:=bW kb;obtain⟨f0,f1,f2,f3,f4,f5,f6,f7,f8,f9,f10⟩:=bS kb;have hcut:=zYx (cs:=cs) (p:=p) (r:=(zDy r.1,r.2)) hp8 hk8 hq7 hb7 hbw hbq hbp hQQ kb rfl hPP hto8 hn7 HDD.s hnb HH.s.bw;refine bO λK0 hK0=> ?_
   simp only[bC,qK,qN,qD,qE];go_wp2_with fail;obtain⟨owc,hpc,hkc,hqc,hbc,hQc,hBc,hPc,hTc,hNc⟩:=hcut;refine hK0 _ (wrT w8 bs t) (λ_=>⟨⟨_,zIz hpc hi hPc⟩,rfl⟩) ?_;refine gX ?_;go_wp2_with fail;go_meet;exact⟨bs,rfl,uT ⟨t,owc,hpc,hkc,hqc,hbc,hbw,hbq,hbp,hQc,hBc,hPc,hNc,HDD.s,hnb,wd.heap.size,hTc,hQs,hwd⟩⟩
  ·refine bO λK0 hK0=> ?_
   simp only[bC,qK,qN,qD,qE];go_wp2_with fail;rw[zAa];obtain⟨w6,hw6⟩:=kB (wd.alloc (.cells (bQ 0 0).cells.toArray 57));obtain⟨bs,hbs⟩:=kB wd.heap.size;have hb6:=uH hw6;have kb:Blk w6 bs 57 (bQ 0 0).cells.toArray:=by rw[hw6,hbs];exact Blk.new _ _ _
   rw[<-hw6,<-hbs];have hd6:=hd0.trans (hb6.mono hd0.size);have hbn:ow bs= .no:=(HX.s.calm hd0).fresh bs (by omega);have hbw:w.heap.size<=bs:=by rw[hbs];exact qL HBX.s.size hd0.size
   have hP6:=hPd.below hb6 hPd.lt;have hQ6:=hQd.below hb6 hQd.lt;have hbq:bs≠q:=by have:=hQd.lt;omega
   have hbp:bs≠p:=by have:=hPd.lt;omega
   refine hK0 _ w6 (λ_=>⟨⟨_,zIz (HX.s.calm hd6) hi hP6⟩,rfl⟩) ?_;clear hK0 K0 hw6 hbs;refine bO λK0 hK0=> ?_
   simp only[bC,qK,qN,qD,qE];go_wp2_with fail;refine(HCL.s w6 hd6).mono ?_;rintro _ w7 ⟨t,rfl,hd,hto,ow7,hp7,hk7,hn7⟩;have HDD:=uT hd;clear hd;have hkk:Kept w w7 ow ow7:=(Kept.calm (HBX.s.trans (hd6.mono HBX.s.size))).trans hk7;have hQ7:=hk7.blk hQ6 HNQ.s;have hP7:=hk7.blk hP6 HNP.s;have hb7:ow7 bs= .no:=(hk7.old bs kb.lt).trans hbn;have hq7:ow7 q= .no:=(hk7.old q hQ6.lt).trans HNQ.s;have hbs6:=kb.lt;have kb:=hk7.blk kb hbn;unfold Tol.val;go_wp2_with fail;refine hK0 _ w7 (λ_=>⟨⟨_,zIz hp7 hi hP7⟩,rfl⟩) ?_;clear hK0 K0;have hwd:w.heap.size<=w6.heap.size:=qL HBX.s.size hd6.size;have hQs:=hQ6.lt;have hnb:∀v,(v=Value.slice t.sA t.sn t.sc\/v=Value.slice t.fA t.fn t.fc\/v=Value.slice t.rA t.rn t.rc)->v.ownBlock≠some bs:=λv hv e=>by
    rcases hv with rfl|rfl|rfl
    ·have:=(hto.so.lt bs e).1;omega
    ·have:=(hto.fo.lt bs e).1;omega
    ·have:=(hto.ro.lt bs e).1;omega
   obtain⟨g0,g1,g2,g3,g4,g5,g6,g7,g8,g9,g10⟩:=bW kb;obtain⟨f0,f1,f2,f3,f4,f5,f6,f7,f8,f9,f10⟩:=bS kb;have hcut:=zYx (cs:=cs) (p:=p) (r:=(zDy r.1,r.2)) hp7 hkk hq7 hb7 hbw hbq hbp hQ7 kb rfl hP7 hto hn7 HDD.s hnb HH.s.bw;refine bO λK0 hK0=> ?_
   simp only[bC,qK,qN,qD,qE];go_wp2_with fail;obtain⟨owc,hpc,hkc,hqc,hbc,hQc,hBc,hPc,hTc,hNc⟩:=hcut;refine hK0 _ (wrT w7 bs t) (λ_=>⟨⟨_,zIz hpc hi hPc⟩,rfl⟩) ?_;refine gX ?_;go_wp2_with fail;go_meet;exact⟨bs,rfl,uT ⟨t,owc,hpc,hkc,hqc,hbc,hbw,hbq,hbp,hQc,hBc,hPc,hNc,HDD.s,hnb,w6.heap.size,hTc,hQs,hwd⟩⟩
 case rest=>
  obtain⟨bs,rfl,HC⟩:=hcut;obtain⟨t,owc,hpc,hkc,hqc,hbc,hbw,hbq,hbp,hQc,hBc,hPc,hNc,hdc,hnb,B,hTc,hqB,hwB⟩:=HC.s;have p1:wc.cell? ⟨p,1,none⟩=some (.int .i64 (i:Int)):=by rw[hPc.cell 1,hcs];rfl
  have v1:wc.cell? ⟨bs,1,none⟩=some (.int .i64 t.d.who):=hBc.cell 1;have y1:=hBc.frozen 1;have ho9:Only (λk=>k=bs) wc (wc.setCell ⟨bs,1,none⟩ (.int .i64 (i:Int))):=bI (Only.refl _ wc) 1 _;obtain⟨HKT,HP9,HKK,HQ9⟩:=uK (show Blk (wc.setCell ⟨bs,1,none⟩ (.int .i64 (i:Int))) bs 57 (whoT t i).cells.toArray by rw[<-yGk];exact hBc.set_ 1 _) (hpc.own ho9 hbc (qL HH.s.bw hbw)) (show Kept w (wc.setCell ⟨bs,1,none⟩ (.int .i64 (i:Int))) ow owc from⟨hkc.only.trans ho9 (λx hx e=>by omega),hkc.old⟩) (hQc.only ho9 λe=>hbq e.symm);have HT9:=uT (show TolOwn (whoT t i) (wc.setCell ⟨bs,1,none⟩ (.int .i64 (i:Int))) B from by have h1:=zOn hTc hNc ho9 hnb;exact⟨h1.so,h1.fo,h1.ro⟩)
  have HN9:=uT (show TolNo (whoT t i) owc from hNc);have HD9:=uT (show(whoT t i).d=r.1 by unfold whoT;dsimp only;rw[hdc];unfold zDy;dsimp only;rw[<-HWHO.s])
  obtain⟨HNC,HQB,HWB⟩:=uJ hqc hqB hwB;clear hpc hkc hqc hbc hbw hbq hbp hQc hBc hPc hNc hdc hnb hTc hqB hwB HC ho9 hcs;go_upto_region 17 with fail;generalize wc.setCell ⟨bs,1,none⟩ (.int .i64 (i:Int))=w9 at HKT HP9 HKK HQ9 HT9⊢;clear p1 v1 y1;generalize whoT t i=t9 at HKT HT9 HN9 HD9;obtain⟨x0,x1,x2,x3,x4,x5,x6,x7,x8,x9,x10⟩:=dM HKT.s;obtain⟨_,_,_,_,_,_,_,_,_,_,_⟩:=bW HQ9.s;obtain⟨_,_,_,_,_,_,_,_,_,_,_⟩:=bS HQ9.s;go_wp2_with fail;change bodyPost _ _ _ _ _ (wrT w9 q t9);have k9:=zFm HQ9.s rfl t9;have HO9:=uT (zDk w9 q t9);generalize wrT w9 q t9=wz at k9 HO9⊢;refine bodyPost_ret (v:=(t9).val) (zLe k9) rfl (zAy (HP9.s.more (jD K)) HKK.s HT9.s HQB.s HWB.s HO9.s (by rw[HQ.s];omega) HNC.s HN9.s (HD9.s.trans (by rw[HE.s])) (by rw[HE.s]) HH.s.bw)
theorem step_any(h:PW w c y S K base ow)(N:Nat)(hS:S.ok c N)(hN:N<=10000)(hK:K<1000000)(hT:OrdT w)(hg:0<base)(s:StpI)(hwf:(Lit.int .i64 s.id).wf=true):Calls prog 40 #[.pointer (some ⟨y.hb,0,none⟩),s.val] w (fH w c y (K+1) base ow (stepW c S s)):=by
 by_cases h1:s.kind=9
 ·exact yFh h N hS hN hK s h1
 by_cases h2:s.kind=10
 ·exact zXd h N hS hN hK s hwf h2
 by_cases h3:s.kind=11
 ·exact yGz h N hS hN hK s hwf h3
 by_cases h4:s.kind<1\/11<s.kind
 ·exact yGq h N hS hN hK s h4
 have h5:1<=s.kind/\s.kind<=8:=by omega
 by_cases h6:s.who<0\/c.br<=s.who
 ·exact step_who h N hS hN hK s h5 h6
 have hbr:=(bJ h.may).1.1;exact yAe h N hS hN hK s hT hg s.who.toNat (by omega) (by omega) h5
end
theorem zJi{w:World}{base n:Nat}{e:TypeId}{v:Value}{xs:List Value}(h:w.ownsRow base e 1 v n xs)(hn:0<n):∃g cap cs,v= .slice (some ⟨g,0,none⟩) n cap/\base<=g/\n<=cap/\Blk w g e cs/\∀(j:Nat) (u:Value),xs[j]? =some u->cs[j]? =some u:=by
 rcases h.2 with⟨h1,h2⟩|⟨g,cap,cur,h1,hb,hh,hnc,hcm,hs,ht⟩
 ·omega
 ·refine⟨g,cap,cur,h1,hb,hnc,hh,λj u hj=> ?_⟩;rw[<-ht,List.getElem?_take]at hj
  split at hj
  ·simpa using hj
  ·cases hj
def zIh(m:Nat):Array Value:=madeCells #[.int .i64 0,.int .i64 0,.int .i64 0,.slice none 0 0] (m*4)
theorem yEs(m k:Nat)(hk:k<m):Has (zIh m) (k*4) (Shf.new.cells (.slice none 0 0)):=by
 intro j u hj;have hjl:j<4:=(qJ.1 hj).1;unfold zIh;rw[zIu _ _ _ (by simp) (by omega)];rw[show(k*4+j)%(#[Value.int .i64 0,.int .i64 0,.int .i64 0,.slice none 0 0]:Array Value).size=j by show(k*4+j)%4=j;omega];obtain h|h|h|h:j=0\/j=1\/j=2\/j=3:=by omega
 all_goals
  subst h;exact hj
structure BrNew(W:World)(c:Cfg)(B:Nat)(b:BrA):Prop where
 blk:Blk W b.b 81 #[.slice (some ⟨b.s,0,none⟩) c.m c.m,.slice (some ⟨b.a,0,none⟩) c.m c.m,.slice (some ⟨b.g,0,none⟩) c.m c.m,.slice (some ⟨b.t,0,none⟩) c.ln c.ln]
 s:Blk W b.s 84 (zIh c.m)
 a:IRow W b.a (List.replicate c.m 0) []
 g:IRow W b.g (List.replicate c.m 0) []
 t:Blk W b.t 103 (zAs c.ln)
 low:B<=b.b/\B<=b.s/\B<=b.a/\B<=b.g/\B<=b.t
 ag:b.a≠b.g
def zCm(b:BrA)(i k:Nat):Tag:=if k=b.b then .con else if k=b.s then .sh i else if k=b.a then .ask i else if k=b.g then .gn i else if k=b.t then .str i else .no
structure BG(W:World)(c:Cfg)(y:Lay)(B nb nk:Nat)(vB vK:Value)(ow:Nat->Tag):Prop where
 blk:Blk W y.hb 72 #[.int .i64 c.br,.slice c.la.A c.la.n c.la.c,.int .i64 c.tk,.slice c.mi.A c.mi.n c.mi.c,.int .i64 c.cap,vB,vK,.pointer (some ⟨y.og,0,none⟩),.map (some y.lb)]
 oB:W.ownsRow B 76 1 vB nb ((List.range nb).map λi=>Value.pointer (some ⟨(y.br i).b,0,none⟩))
 oK:W.ownsRow B 73 1 vK nk ((List.range nk).map λj=>Value.pointer (some ⟨y.bg j,0,none⟩))
 brs:∀i,i<nb->Blk W (y.br i).b 81 #[.slice (some ⟨(y.br i).s,0,none⟩) c.m c.m,.slice (some ⟨(y.br i).a,0,none⟩) c.m c.m,.slice (some ⟨(y.br i).g,0,none⟩) c.m c.m,.slice (some ⟨(y.br i).t,0,none⟩) c.ln c.ln]
 sh:∀i,i<nb->ShRow W B (y.br i).s c.m (λ_=>Shf.new) (λk=>ow k= .sh i)
 ask:∀i,i<nb->NumRow W B (y.br i).a (List.replicate c.m 0) (λk=>ow k= .ask i)
 gn:∀i,i<nb->NumRow W B (y.br i).g (List.replicate c.m 0) (λk=>ow k= .gn i)
 st:∀i,i<nb->StRow W B (y.br i).t (List.replicate c.ln []) (λk=>ow k= .str i)
 bk:∀j,j<nk->BkRow W B (y.bg j) c.n c.cap c.tk (zCr (BkS.new c.n) (c.mi.zs.getD j 0)) (λk=>ow k= .bk j)
 off:OfRow W B y.og y.ob [] (λ_ _=>0) 0 (λk=>ow k= .off)
 lst:LsRow W y.lb (λ_=>false) 0 (λk=>ow k= .lst)
 oc:ow y.hb= .con
 ob:∀i,i<nb->ow (y.br i).b= .con
 nB:∀k,vB.ownBlock=some k->ow k= .no
 nK:∀k,vK.ownBlock=some k->ow k= .no
 low:∀k,ow k≠ .no->B<=k
 fresh:∀k,W.heap.size<=k->ow k= .no
 m0:0<c.m
section
variable {W W':World}{c:Cfg}{y:Lay}{B nb nk:Nat}{vB vK vB' vK':Value}{ow ow':Nat->Tag}{D:Nat->Prop}
theorem BG.keep(h:BG W c y B nb nk vB vK ow)(ho:Only D W W')(hD:∀k,k<W.heap.size->D k->ow k= .no\/k=y.hb)(hw:∀k,k<W.heap.size->ow' k=ow k)(hBb:∀k,D k->B<=k):(∀i,i<nb->Blk W' (y.br i).b 81 #[.slice (some ⟨(y.br i).s,0,none⟩) c.m c.m,.slice (some ⟨(y.br i).a,0,none⟩) c.m c.m,.slice (some ⟨(y.br i).g,0,none⟩) c.m c.m,.slice (some ⟨(y.br i).t,0,none⟩) c.ln c.ln])/\ (∀i,i<nb->ShRow W' B (y.br i).s c.m (λ_=>Shf.new) λk=>ow' k= .sh i)/\(∀i,i<nb->NumRow W' B (y.br i).a (List.replicate c.m 0) λk=>ow' k= .ask i)/\(∀i,i<nb->NumRow W' B (y.br i).g (List.replicate c.m 0) λk=>ow' k= .gn i)/\ (∀i,i<nb->StRow W' B (y.br i).t (List.replicate c.ln []) λk=>ow' k= .str i)/\(∀j,j<nk->BkRow W' B (y.bg j) c.n c.cap c.tk (zCr (BkS.new c.n) (c.mi.zs.getD j 0)) λk=>ow' k= .bk j)/\OfRow W' B y.og y.ob [] (λ_ _=>0) 0 (λk=>ow' k= .off)/\LsRow W' y.lb (λ_=>false) 0 (λk=>ow' k= .lst):=by
 have key:∀t:Tag,t≠ .no->t≠ .con->(∀k,k<W.heap.size->ow k=t->¬ D k)/\∀k,k<W.heap.size->ow k=t->ow' k=t:=λt h1 h2=>⟨λk hk he hd=>by
  rcases hD k hk hd with e|e
  ·exact h1 (he.symm.trans e)
  ·rw[e,h.oc]at he;exact h2 he.symm,λk hk he=>(hw k hk).trans he⟩
 refine⟨λi hi=>(h.brs i hi).only ho λhd=> ?_,λi hi=>(h.sh i hi).only h.m0 ho (key _ (by simp) (by simp)).1 (key _ (by simp) (by simp)).2,λi hi=>(h.ask i hi).only ho (key _ (by simp) (by simp)).1 (key _ (by simp) (by simp)).2,λi hi=>(h.gn i hi).only ho (key _ (by simp) (by simp)).1 (key _ (by simp) (by simp)).2,λi hi=>(h.st i hi).only ho (key _ (by simp) (by simp)).1 (key _ (by simp) (by simp)).2,λj hj=>(h.bk j hj).only ho (key _ (by simp) (by simp)).1 (key _ (by simp) (by simp)).2,h.off.only ho (key _ (by simp) (by simp)).1 (key _ (by simp) (by simp)).2,h.lst.only ho (key _ (by simp) (by simp)).1 (key _ (by simp) (by simp)).2⟩;rcases hD _ (h.brs i hi).lt hd with e|e
 ·rw[h.ob i hi]at e;cases e
 ·exact Blk.ne_ (h.brs i hi) h.blk (by decide) e
theorem BG.calm(h:BG W c y B nb nk vB vK ow)(hb:uR W W'):BG W' c y B nb nk vB vK ow:=by have ho:Only (λ_=>False) W W':=Only.of_below hb (λx h1 h2=>by omega);obtain⟨k1,k2,k3,k4,k5,k6,k7,k8⟩:=h.keep (ow':=ow) ho (λk _ e=>e.elim) (λ_ _=>rfl) (λk e=>e.elim);exact⟨h.blk.only ho (λe=>e),bK h.oB ho (λ_ _ e=>e),bK h.oK ho (λ_ _ e=>e),k1,k2,k3,k4,k5,k6,k7,k8,h.oc,h.ob,h.nB,h.nK,h.low,λk hk=>h.fresh k (qL ho.size hk),h.m0⟩
theorem zFf{α β:Type}(f:Nat->α)(g:α->β)(n:Nat)(x:α):(List.range (n+1)).map (λi=>g (bN f n x i))=(List.range n).map (λi=>g (f i))++[g x]:=by
 rw[List.range_succ,jG,List.map_singleton,dD]
 congr 1
 exact List.map_congr_left λi hi=>by rw[cN _ _ (by have:=jZ.1 hi;omega)]
theorem BG.branch(h:BG W c y B nb nk vB vK ow)(b:BrA)(ho:Only (λk=>k=y.hb\/vB.ownBlock=some k) W W')(hb:BrNew W' c W.heap.size b)(hblk:Blk W' y.hb 72 #[.int .i64 c.br,.slice c.la.A c.la.n c.la.c,.int .i64 c.tk,.slice c.mi.A c.mi.n c.mi.c,.int .i64 c.cap,vB',vK,.pointer (some ⟨y.og,0,none⟩),.map (some y.lb)])(hoB:W'.ownsRow B 76 1 vB' (nb+1) ((List.range nb).map (λi=>Value.pointer (some ⟨(y.br i).b,0,none⟩))++[.pointer (some ⟨b.b,0,none⟩)]))(hat:∀k,vB'.ownBlock=some k->vB.ownBlock=some k\/W.heap.size<=k)(hBW:B<=W.heap.size):BG W' c {y with br:=bN y.br nb b} B (nb+1) nk vB' vK (λk=>if k<W.heap.size then ow k else zCm b nb k):=by
 have hw:∀k,k<W.heap.size->(λk=>if k<W.heap.size then ow k else zCm b nb k) k=ow k:=λk hk=>if_pos hk
 have hnew:∀k,W.heap.size<=k->(λk=>if k<W.heap.size then ow k else zCm b nb k) k=zCm b nb k:=λk hk=>if_neg (Nat.not_lt.2 hk)
 have hD:∀k,k<W.heap.size->(k=y.hb\/vB.ownBlock=some k)->ow k= .no\/k=y.hb:=λk _ hd=>by
  rcases hd with e|e
  ·exact .inr e
  ·exact .inl (h.nB k e)
 obtain⟨k1,k2,k3,k4,k5,k6,k7,k8⟩:=h.keep (ow':=λk=>if k<W.heap.size then ow k else zCm b nb k) ho hD hw (λk hd=>by
  rcases hd with rfl|e
  ·exact h.low _ (by rw[h.oc];simp)
  ·exact(h.oB.lt k e).1)
 have nsb:=Blk.ne_ hb.s hb.blk (by decide);have nab:=Blk.ne_ hb.a hb.blk (by decide);have nas:=Blk.ne_ hb.a hb.s (by decide);have ngb:=Blk.ne_ hb.g hb.blk (by decide);have ngs:=Blk.ne_ hb.g hb.s (by decide);have ntb:=Blk.ne_ hb.t hb.blk (by decide);have nts:=Blk.ne_ hb.t hb.s (by decide);have nta:=Blk.ne_ hb.t hb.a (by decide);have ntg:=Blk.ne_ hb.t hb.g (by decide);obtain⟨l1,l2,l3,l4,l5⟩:=hb.low;have tb:zCm b nb b.b= .con:=if_pos rfl;have ts:zCm b nb b.s= .sh nb:=(if_neg nsb).trans (if_pos rfl);have ta:zCm b nb b.a= .ask nb:=((if_neg nab).trans (if_neg nas)).trans (if_pos rfl);have tg:zCm b nb b.g= .gn nb:=(((if_neg ngb).trans (if_neg ngs)).trans (if_neg (Ne.symm hb.ag))).trans (if_pos rfl);have tt:zCm b nb b.t= .str nb:=((((if_neg ntb).trans (if_neg nts)).trans (if_neg nta)).trans (if_neg ntg)).trans (if_pos rfl);have hm:∀{P:Nat->BrA->Prop},(∀i,i<nb->P i (y.br i))->P nb b->∀i,i<nb+1->P i (bN y.br nb b i):=λh1 h2 i hi=>by
  by_cases e:i=nb
  ·subst e;rw[dD];exact h2
  ·rw[cN _ _ e];exact h1 i (by omega)
 have hsz:=ho.size;have hblt:=h.blk.lt;refine⟨hblk,?_,bK h.oK ho (λk hk hd=> ?_),hm (P:=λi z=>Blk W' z.b 81 #[.slice (some ⟨z.s,0,none⟩) c.m c.m,.slice (some ⟨z.a,0,none⟩) c.m c.m,.slice (some ⟨z.g,0,none⟩) c.m c.m,.slice (some ⟨z.t,0,none⟩) c.ln c.ln]) k1 hb.blk,
  hm (P:=λi z=>ShRow W' B z.s c.m (λ_=>Shf.new) λk=>(if k<W.heap.size then ow k else zCm b nb k)= .sh i) k2 ⟨⟨zIh c.m,λ_=> .slice none 0 0,λk hk=>⟨⟨hb.s,yEs _ _ hk,qH _ _ _ _⟩,λq hq=>by cases hq⟩,λk k' _ _ _ q hq=>by cases hq⟩,(hnew _ l2).trans ts⟩,
  hm (P:=λi z=>NumRow W' B z.a (List.replicate c.m 0) λk=>(if k<W.heap.size then ow k else zCm b nb k)= .ask i) k3 ⟨hb.a,by omega,(hnew _ l3).trans ta⟩,
  hm (P:=λi z=>NumRow W' B z.g (List.replicate c.m 0) λk=>(if k<W.heap.size then ow k else zCm b nb k)= .gn i) k4 ⟨hb.g,by omega,(hnew _ l4).trans tg⟩,
  hm (P:=λi z=>StRow W' B z.t (List.replicate c.ln []) λk=>(if k<W.heap.size then ow k else zCm b nb k)= .str i) k5 ⟨⟨List.replicate c.ln EnR.nil,⟨?_,λr hr=> ?_,λr hr=> ?_,by omega⟩,by rw[List.map_replicate];rfl,λr hr q hq=> ?_⟩,(hnew _ l5).trans tt⟩,
  k6,k7,k8,(hw _ hblt).trans h.oc,hm (P:=λi z=>(if z.b<W.heap.size then ow z.b else zCm b nb z.b)= .con) (λi hi=>(hw _ (h.brs i hi).lt).trans (h.ob i hi)) ((hnew _ l1).trans tb),λk hk=> ?_,λk hk=>(hw _ (h.oK.lt k hk).2).trans (h.nK k hk),λk hk=> ?_,λk hk=> ?_,h.m0⟩
 ·exact(congrArg (λxs=>W'.ownsRow B 76 1 vB' (nb+1) xs) (zFf y.br (λz:BrA=>Value.pointer (some ⟨z.b,0,none⟩)) nb b)).mpr hoB
 ·rcases hd with rfl|e
  ·exact bB h.oK h.blk (by decide) hk
  ·rcases dU h.oK h.oB (by decide)with e1|e1
   ·rw[e1]at hk;cases hk
   ·exact e1 (by rw[hk,e])
 ·rw[List.map_replicate];exact hb.t
 ·rw[(uB.1 hr).2];exact qH _ _ _ _
 ·rw[(uB.1 hr).2];exact qO _
 ·rw[(uB.1 hr).2]at hq;cases hq
 ·rcases hat k hk with e|e
  ·exact(hw k (h.oB.lt k e).2).trans (h.nB k e)
  ·refine(hnew k e).trans ?_;have n1:k≠b.b:=λe2=>bB hoB hb.blk (by decide) (by rw[hk,e2])
   have n2:k≠b.s:=λe2=>bB hoB hb.s (by decide) (by rw[hk,e2])
   have n3:k≠b.a:=λe2=>bB hoB hb.a (by decide) (by rw[hk,e2])
   have n4:k≠b.g:=λe2=>bB hoB hb.g (by decide) (by rw[hk,e2])
   have n5:k≠b.t:=λe2=>bB hoB hb.t (by decide) (by rw[hk,e2])
   unfold zCm;rw[if_neg n1,if_neg n2,if_neg n3,if_neg n4,if_neg n5]
 ·by_cases hlt:k<W.heap.size
  ·exact h.low k (by rw[<-hw k hlt];exact hk)
  ·omega
 ·have h1:=hb.blk.lt;have h2:=hb.s.lt;have h3:=hb.a.lt;have h4:=hb.g.lt;have h5:=hb.t.lt;refine(hnew k (by omega)).trans ?_;unfold zCm;rw[if_neg (by omega),if_neg (by omega),if_neg (by omega),if_neg (by omega),if_neg (by omega)]
theorem BG.book(h:BG W c y B nb nk vB vK ow)(p:BkL)(ho:Only (λk=>k=y.hb\/vK.ownBlock=some k) W W')(hb:BkAt W' B c.n p c.cap c.tk (zCr (BkS.new c.n) (c.mi.zs.getD nk 0)))(hp:∀k,p.has k->W.heap.size<=k)(hblk:Blk W' y.hb 72 #[.int .i64 c.br,.slice c.la.A c.la.n c.la.c,.int .i64 c.tk,.slice c.mi.A c.mi.n c.mi.c,.int .i64 c.cap,vB,vK',.pointer (some ⟨y.og,0,none⟩),.map (some y.lb)])(hoK:W'.ownsRow B 73 1 vK' (nk+1) ((List.range nk).map (λj=>Value.pointer (some ⟨y.bg j,0,none⟩))++[.pointer (some ⟨p.g,0,none⟩)]))(hat:∀k,vK'.ownBlock=some k->vK.ownBlock=some k\/W.heap.size<=k)(hBW:B<=W.heap.size):BG W' c {y with bg:=bN y.bg nk p.g} B nb (nk+1) vB vK' (λk=>if k<W.heap.size then ow k else if k=p.g\/k=p.gw\/k=p.gg\/k=p.gq then .bk nk else .no):=by
 have hw:∀k,k<W.heap.size->(λk=>if k<W.heap.size then ow k else if k=p.g\/k=p.gw\/k=p.gg\/k=p.gq then .bk nk else .no) k=ow k:=λk hk=>if_pos hk
 have hnew:∀k,W.heap.size<=k->(λk=>if k<W.heap.size then ow k else if k=p.g\/k=p.gw\/k=p.gg\/k=p.gq then .bk nk else .no) k=if k=p.g\/k=p.gw\/k=p.gg\/k=p.gq then .bk nk else .no:=λk hk=>if_neg (Nat.not_lt.2 hk)
 have hD:∀k,k<W.heap.size->(k=y.hb\/vK.ownBlock=some k)->ow k= .no\/k=y.hb:=λk _ hd=>by
  rcases hd with e|e
  ·exact .inr e
  ·exact .inl (h.nK k e)
 obtain⟨k1,k2,k3,k4,k5,k6,k7,k8⟩:=h.keep (ow':=λk=>if k<W.heap.size then ow k else if k=p.g\/k=p.gw\/k=p.gg\/k=p.gq then .bk nk else .no) ho hD hw (λk hd=>by
  rcases hd with rfl|e
  ·exact h.low _ (by rw[h.oc];simp)
  ·exact(h.oK.lt k e).1)
 have hsz:=ho.size;have hblt:=h.blk.lt;refine⟨hblk,bK h.oB ho (λk hk hd=> ?_),?_,k1,k2,k3,k4,k5,λj hj=> ?_,k7,k8,(hw _ hblt).trans h.oc,λi hi=>(hw _ (h.brs i hi).lt).trans (h.ob i hi),λk hk=>(hw _ (h.oB.lt k hk).2).trans (h.nB k hk),λk hk=> ?_,λk hk=> ?_,λk hk=> ?_,h.m0⟩
 ·rcases hd with rfl|e
  ·exact bB h.oB h.blk (by decide) hk
  ·rcases dU h.oB h.oK (by decide)with e1|e1
   ·rw[e1]at hk;cases hk
   ·exact e1 (by rw[hk,e])
 ·exact(congrArg (λxs=>W'.ownsRow B 73 1 vK' (nk+1) xs) (zFf y.bg (λz:Nat=>Value.pointer (some ⟨z,0,none⟩)) nk p.g)).mpr hoK
 ·by_cases e:j=nk
  ·subst e;show BkRow W' B (bN y.bg j p.g j) _ _ _ _ _;rw[dD];exact⟨⟨p,rfl,hb,λk hk=>(hnew k (hp k hk)).trans (if_pos hk)⟩⟩
  ·show BkRow W' B (bN y.bg nk p.g j) _ _ _ _ _;rw[cN _ _ e];exact k6 j (by omega)
 ·rcases hat k hk with e|e
  ·exact(hw k (h.oK.lt k e).2).trans (h.nK k e)
  ·refine(hnew k e).trans (if_neg ?_);rintro(e2|e2|e2|e2)
   ·exact bB hoK hb.blk (by decide) (by rw[hk,e2])
   ·exact bB hoK hb.rw_ (by decide) (by rw[hk,e2])
   ·exact bB hoK hb.rg (by decide) (by rw[hk,e2])
   ·exact bB hoK hb.rq (by decide) (by rw[hk,e2])
 ·by_cases hlt:k<W.heap.size
  ·exact h.low k (by rw[<-hw k hlt];exact hk)
  ·omega
 ·have h1:=λq hq=>hb.lt q hq
  refine(hnew k (by omega)).trans (if_neg ?_);intro e;have:=h1 k e;omega
theorem BG.done(h:BG W c y B c.n c.m vB vK ow)(hc:c.ok W B)(hm:bH c=true)(hBW:B<=W.heap.size):∃y' ow',y'.hb=y.hb/\PW W c y' (WS.new c) 0 B ow':=by
 obtain⟨⟨_,hn1,_⟩,_,_,⟨hm1,_⟩,_⟩:=bJ hm;obtain⟨bb,bc,cs,rfl,b1,_,b3,b4⟩:=zJi h.oB (by omega);obtain⟨kb,kc,ds,rfl,d1,_,d3,d4⟩:=zJi h.oK (by omega);have nb0:ow bb= .no:=h.nB bb rfl;have nk0:ow kb= .no:=h.nK kb rfl;refine⟨{y with bb:=bb,bc:=bc,kb:=kb,kc:=kc},λk=>if k=bb\/k=kb then .con else ow k,rfl,λt=> ?_,λk hk=> ?_,λk hk=> ?_,hc,hm,hBW⟩
 ·have hw:∀t:Tag,t≠ .no->∀k,k<W.heap.size->ow k=t->(if k=bb\/k=kb then Tag.con else ow k)=t:=λt ht k _ he=>by
   rw[if_neg λe=> ?_]
   ·exact he
   ·rcases e with rfl|rfl
    ·exact ht (he.symm.trans nb0)
    ·exact ht (he.symm.trans nk0)
  have hO:=Only.refl (λ_=>False) W;cases t with
  |no=>trivial
  |con=>refine⟨h.blk,⟨cs,b3,λi hi=>b4 i _ (by simp[hi])⟩,⟨ds,d3,λj hj=>d4 j _ (by simp[hj])⟩,h.brs,hw .con (by simp) _ h.blk.lt h.oc,if_pos (.inl rfl),if_pos (.inr rfl),λi hi=>hw .con (by simp) _ (h.brs i hi).lt (h.ob i hi)⟩
  |sh i=>exact λhi=>(h.sh i hi).only h.m0 hO (λ_ _ _ e=>e) (hw _ (by simp))
  |ask i=>exact λhi=>(h.ask i hi).only hO (λ_ _ _ e=>e) (hw _ (by simp))
  |gn i=>exact λhi=>(h.gn i hi).only hO (λ_ _ _ e=>e) (hw _ (by simp))
  |str i=>exact λhi=>(h.st i hi).only hO (λ_ _ _ e=>e) (hw _ (by simp))
  |bk j=>intro hj;show BkRow W B (y.bg j) c.n c.cap c.tk (if j<c.m then zCr (BkS.new c.n) (c.mi.zs.getD j 0)else BkS.new c.n) _;rw[if_pos hj];exact(h.bk j hj).only hO (λ_ _ _ e=>e) (hw _ (by simp))
  |off=>exact h.off.only hO (λ_ _ _ e=>e) (hw _ (by simp))
  |lst=>exact h.lst.only hO (λ_ _ _ e=>e) (hw _ (by simp))
 ·by_cases e:k=bb\/k=kb
  ·rcases e with rfl|rfl
   ·exact b1
   ·exact d1
  ·rw[if_neg e]at hk;exact h.low k hk
 ·have h1:=b3.lt;have h2:=d3.lt;rw[if_neg (by omega)];exact h.fresh k hk
end
def zWy:List OT->OT
 |[]=> .done
 |[t]=>t
 |t::ts=> .fork t (zWy ts)
def permT:Nat->List Nat->OT->OT
 |0,_,r=>r
 |n+1,M,r=>zWy (M.map λk=> .next k (permT n (M.erase k) r))
theorem zUc{P:Program}{l:List Oper}{Q:Exit->Act->World->Prop}{C:World->Prop}{cal:List Nat}{a:Act}{w:World}:∀{ts:List OT},(∀t∈ts,wpT P l Q C cal t a w)->ts≠[]->wpT P l Q C cal (zWy ts) a w
 |[],_,h=>absurd rfl h
 |[t],h,_=>h t (by simp)
 |t::u::ts,h,_=>⟨h t (by simp),zUc (λx hx=>h x (List.mem_cons_of_mem _ hx)) (by simp)⟩
theorem zYm{P:Program}{l:List Oper}{Q:Exit->Act->World->Prop}{C:World->Prop}{cal:List Nat}{rest:OT}(F:(Nat->Option Nat)->Act)(I:(Nat->Option Nat)->World->Prop)(M0:List Nat)(step:∀k∈M0,∀β W t,I β W->(∀b W',I (bN β k (some b)) W'->wpT P l Q C cal t (F (bN β k (some b))) W')->β k=none->wpT P l Q C cal (.next k t) (F β) W)(fin:∀β W,(∀k∈M0,∃b,β k=some b)->I β W->wpT P l Q C cal rest (F β) W):∀(n:Nat) (M:List Nat) (β:Nat->Option Nat) (W:World),M.length=n->M.Nodup->(∀k∈M,k∈M0/\β k=none)->(∀k∈M0,k∈M\/∃b,β k=some b)->I β W->wpT P l Q C cal (permT n M rest) (F β) W
 |0,M,β,W,hl,_,_,h4,hI=>fin β W (λk hk=>(h4 k hk).resolve_left (by rw[uC hl];simp)) hI
 |n+1,M,β,W,hl,hn,h3,h4,hI=>by
  refine zUc (λt ht=> ?_) (λe=>by rw[List.map_eq_nil_iff]at e;rw[e]at hl;cases hl);obtain⟨k,hk,rfl⟩:=jF.1 ht;refine step k (h3 k hk).1 β W _ hI (λb W' hI'=>zYm F I M0 step fin n (M.erase k) _ W' (by rw[List.length_erase_of_mem hk];omega) (hn.erase k) (λj hj=> ?_) (λj hj=> ?_) hI') (h3 k hk).2
  ·have hjk:=(hn.mem_erase_iff.1 hj);exact⟨(h3 j hjk.2).1,by rw[cN _ _ hjk.1];exact(h3 j hjk.2).2⟩
  ·by_cases e:j=k
   ·subst e;exact .inr ⟨b,dD _ _ _⟩
   ·rcases h4 j hj with h|⟨d,h⟩
    ·exact .inl (hn.mem_erase_iff.2 ⟨e,h⟩)
    ·exact .inr ⟨d,by rw[cN _ _ e];exact h⟩
def yBu:OT:= .fork (.next 1 (.next 2 (.next 3 (.next 4 (.next 5 .done))))) (.next 2 (.next 1 (.next 3 (.next 4 (.next 5 .done)))))
def restBg:OT:= .next 15 (.next 16 (.next 17 (.next 18 (.next 19 (.next 20 (.next 21 .done))))))
structure Row4(wr:World)(c:Cfg)(bs ba bg bt:Nat)(W:World):Prop where
 bel:uR wr W
 s:Blk W bs 84 (zIh c.m)
 a:IRow W ba (List.replicate c.m 0) []
 g:IRow W bg (List.replicate c.m 0) []
 t:Blk W bt 103 (zAs c.ln)
 low:wr.heap.size<=bs/\wr.heap.size<=ba/\wr.heap.size<=bg/\wr.heap.size<=bt
 ag:ba≠bg
structure RowP(wr:World)(c:Cfg)(β:Nat->Option Nat)(W:World):Prop where
 bel:uR wr W
 s:∀b,β 6=some b->Blk W b 84 (zIh c.m)/\wr.heap.size<=b
 a:∀b,β 8=some b->IRow W b (List.replicate c.m 0) []/\wr.heap.size<=b
 g:∀b,β 10=some b->IRow W b (List.replicate c.m 0) []/\wr.heap.size<=b
 t:∀b,β 14=some b->Blk W b 103 (zAs c.ln)/\wr.heap.size<=b
 ag:∀b d,β 8=some b->β 10=some d->b≠d
theorem RowP.add{wr W:World}{c:Cfg}{β:Nat->Option Nat}(h:RowP wr c β W)(o:Obj)(q:Nat)(hs:q=6->Blk (W.alloc o) W.heap.size 84 (zIh c.m))(ha:q=8\/q=10->IRow (W.alloc o) W.heap.size (List.replicate c.m 0) [])(ht:q=14->Blk (W.alloc o) W.heap.size 103 (zAs c.ln)):RowP wr c (bN β q (some W.heap.size)) (W.alloc o):=by
 have hb:uR W (W.alloc o):=(qC _ _).alloc (qA _) _;have key:∀{R:Nat->World->Prop} {j:Nat},(∀b,β j=some b->R b W/\wr.heap.size<=b)->(∀b,R b W->R b (W.alloc o))->(q=j->R W.heap.size (W.alloc o))->∀b,bN β q (some W.heap.size) j=some b->R b (W.alloc o)/\wr.heap.size<=b:=fun{R j} h1 h2 h3 b e=>by
  by_cases ej:j=q
  ·subst ej;rw[dD]at e;injection e with e;subst e;exact⟨h3 rfl,h.bel.size⟩
  ·rw[cN _ _ ej]at e;exact⟨h2 b (h1 b e).1,(h1 b e).2⟩
 refine⟨h.bel.trans (hb.mono h.bel.size),key (R:=λb W=>Blk W b 84 (zIh c.m)) h.s (λb k=>k.below hb k.lt) hs,key (R:=λb W=>IRow W b (List.replicate c.m 0) []) h.a (λb k=>Blk.below k hb (Blk.lt k)) (λe=>ha (.inl e)),key (R:=λb W=>IRow W b (List.replicate c.m 0) []) h.g (λb k=>Blk.below k hb (Blk.lt k)) (λe=>ha (.inr e)),key (R:=λb W=>Blk W b 103 (zAs c.ln)) h.t (λb k=>k.below hb k.lt) ht,λb d e1 e2=> ?_⟩;by_cases e8:8=q
 ·subst e8;rw[dD]at e1;rw[cN _ _ (by decide)]at e2;injection e1 with e1;have:=Blk.lt (h.g d e2).1;omega
 ·rw[cN _ _ e8]at e1;have h1:=Blk.lt (h.a b e1).1;by_cases e10:10=q
  ·subst e10;rw[dD]at e2;injection e2 with e2;omega
  ·rw[cN _ _ e10]at e2;exact h.ag b d e1 e2
structure BgA(w W:World)(c:Cfg)(cb hb nb nk:Nat)(y:Lay)(vB vK:Value)(ow:Nat->Tag):Prop where
 bg:BG W c y w.heap.size nb nk vB vK ow
 eqb:y.hb=hb
 bel:uR w W
 kb:Blk W cb 24 c.cells.toArray
 cl:w.heap.size<=cb
section
variable {w W W':World}{c:Cfg}{cb hb nb nk:Nat}{y:Lay}{vB vK:Value}{ow:Nat->Tag}
theorem BgA.calm(h:BgA w W c cb hb nb nk y vB vK ow)(hw:uR W W'):BgA w W' c cb hb nb nk y vB vK ow:=⟨h.bg.calm hw,h.eqb,h.bel.trans (hw.mono h.bel.size),h.kb.below hw h.kb.lt,h.cl⟩
theorem BgA.cell(h:BgA w W c cb hb nb nk y vB vK ow):W.cell? ⟨hb,5,none⟩=some vB/\W.cell? ⟨hb,6,none⟩=some vK/\W.frozen? ⟨hb,5,none⟩=false/\W.frozen? ⟨hb,6,none⟩=false:=by have h1:=h.bg.blk;rw[h.eqb]at h1;exact⟨h1.cell 5,h1.cell 6,h1.frozen 5,h1.frozen 6⟩
theorem BgA.low(h:BgA w W c cb hb nb nk y vB vK ow):w.heap.size<=hb:=by rw[<-h.eqb];exact h.bg.low _ (by rw[h.bg.oc];simp)
theorem BgA.branch{w7:World}{b:BrA}{g7 cap7:Nat}(h:BgA w W c cb hb nb nk y vB vK ow)(hw:uR W W')(hbn:BrNew W' c W.heap.size b)(hg:W'.grownBy w7 vB.ownBlock)(hown:w7.ownsRow w.heap.size 76 1 (.slice (some ⟨g7,0,none⟩) (nb+1) cap7) (nb+1) ((List.range nb).map (λi=>Value.pointer (some ⟨(y.br i).b,0,none⟩))++[.pointer (some ⟨b.b,0,none⟩)]))(hat:some g7=vB.ownBlock\/W.heap.size<=g7):(w7.cell? ⟨hb,5,none⟩=some vB/\w7.frozen? ⟨hb,5,none⟩=false)/\∃y' ow',BgA w (w7.setCell ⟨hb,5,none⟩ (.slice (some ⟨g7,0,none⟩) (nb+1) cap7)) c cb hb (nb+1) nk y' (.slice (some ⟨g7,0,none⟩) (nb+1) cap7) vK ow':=by
 have hW':=h.calm hw;have o0:Only (λk=>k=hb\/vB.ownBlock=some k) W W':=Only.of_below hw (λx h1 h2=>by omega);have o1:Only (λk=>vB.ownBlock=some k) W' w7:=(Only.refl _ _).grown hg (λg hg _=>hg);have o2:Only (λk=>k=hb) w7 (w7.setCell ⟨hb,5,none⟩ (.slice (some ⟨g7,0,none⟩) (nb+1) cap7)):=bI (Only.refl _ _) _ _;have o3:Only (λk=>k=hb\/vB.ownBlock=some k) W (w7.setCell ⟨hb,5,none⟩ (.slice (some ⟨g7,0,none⟩) (nb+1) cap7)):=(o0.trans o1 λx _ e=> .inr e).trans o2 λx _ e=> .inl e
 have hk7:Blk w7 y.hb 72 _:=hW'.bg.blk.only o1 (bB hW'.bg.oB hW'.bg.blk (by decide));have hbW:∀k,(k=hb\/vB.ownBlock=some k)->k<W.heap.size:=λk hd=>by
  rcases hd with rfl|e
  ·rw[<-h.eqb];exact h.bg.blk.lt
  ·exact(h.bg.oB.lt k e).2
 have hfar:∀{t:TypeId} {cs:Array Value} {q:Nat},Blk W' q t cs->W.heap.size<=q->Blk (w7.setCell ⟨hb,5,none⟩ (.slice (some ⟨g7,0,none⟩) (nb+1) cap7)) q t cs:=λhq hl=>(hq.only o1 λe=>by have:=hbW _ (.inr e);omega).only o2 (λe=>by have:=hbW _ (.inl e);omega)
 have hbr:BrNew (w7.setCell ⟨hb,5,none⟩ (.slice (some ⟨g7,0,none⟩) (nb+1) cap7)) c W.heap.size b:=⟨hfar hbn.blk hbn.low.1,hfar hbn.s hbn.low.2.1,hfar hbn.a hbn.low.2.2.1,hfar hbn.g hbn.low.2.2.2.1,hfar hbn.t hbn.low.2.2.2.2,hbn.low,hbn.ag⟩;have hat':∀k,(Value.slice (some ⟨g7,0,none⟩) (nb+1) cap7).ownBlock=some k->vB.ownBlock=some k\/W.heap.size<=k:=λk hk=>by
  have:k=g7:=by simpa[Value.ownBlock]using hk.symm
  subst this;rcases hat with e|e
  ·exact .inl e.symm
  ·exact .inr e
 refine⟨by rw[<-h.eqb];exact⟨hk7.cell 5,hk7.frozen 5⟩,{y with br:=bN y.br nb b},_,h.bg.branch b (by rw[h.eqb];exact o3) hbr ?_ (bK hown o2 λk hk e=>bB hown hk7 (by decide) (by rw[hk,e,h.eqb])) hat' h.bel.size,h.eqb,?_,?_,h.cl⟩
 ·have:=hk7.set_ 5 (.slice (some ⟨g7,0,none⟩) (nb+1) cap7);rw[h.eqb]at this⊢;exact this
 ·refine(o3.to_below (λx hx hd hx2=> ?_) h.bel.size)|>h.bel.trans
  rcases hx2 with rfl|e
  ·exact absurd h.low (by omega)
  ·have:=(h.bg.oB.lt x e).1;omega
 ·exact h.kb.only o3 (λhd=>by
   rcases hd with e|e
   ·exact Blk.ne_ h.kb h.bg.blk (by decide) (by rw[e,h.eqb])
   ·exact bB h.bg.oB h.kb (by decide) e)
theorem BgA.book{w7:World}{p:BkL}{g7 cap7:Nat}(h:BgA w W c cb hb nb nk y vB vK ow)(hw:uR W W')(hbn:BkAt W' w.heap.size c.n p c.cap c.tk (zCr (BkS.new c.n) (c.mi.zs.getD nk 0)))(hp:∀k,p.has k->W.heap.size<=k)(hg:W'.grownBy w7 vK.ownBlock)(hown:w7.ownsRow w.heap.size 73 1 (.slice (some ⟨g7,0,none⟩) (nk+1) cap7) (nk+1) ((List.range nk).map (λj=>Value.pointer (some ⟨y.bg j,0,none⟩))++[.pointer (some ⟨p.g,0,none⟩)]))(hat:some g7=vK.ownBlock\/W.heap.size<=g7):(w7.cell? ⟨hb,6,none⟩=some vK/\w7.frozen? ⟨hb,6,none⟩=false)/\∃y' ow',BgA w (w7.setCell ⟨hb,6,none⟩ (.slice (some ⟨g7,0,none⟩) (nk+1) cap7)) c cb hb nb (nk+1) y' vB (.slice (some ⟨g7,0,none⟩) (nk+1) cap7) ow':=by
 have hW':=h.calm hw;have o0:Only (λk=>k=hb\/vK.ownBlock=some k) W W':=Only.of_below hw (λx h1 h2=>by omega);have o1:Only (λk=>vK.ownBlock=some k) W' w7:=(Only.refl _ _).grown hg (λg hg _=>hg);have o2:Only (λk=>k=hb) w7 (w7.setCell ⟨hb,6,none⟩ (.slice (some ⟨g7,0,none⟩) (nk+1) cap7)):=bI (Only.refl _ _) _ _;have o3:Only (λk=>k=hb\/vK.ownBlock=some k) W (w7.setCell ⟨hb,6,none⟩ (.slice (some ⟨g7,0,none⟩) (nk+1) cap7)):=(o0.trans o1 λx _ e=> .inr e).trans o2 λx _ e=> .inl e
 have o4:Only (λk=>k=hb\/vK.ownBlock=some k) W' (w7.setCell ⟨hb,6,none⟩ (.slice (some ⟨g7,0,none⟩) (nk+1) cap7)):=(o1.mono λx _ e=> .inr e).trans o2 λx _ e=> .inl e
 have hk7:Blk w7 y.hb 72 _:=hW'.bg.blk.only o1 (bB hW'.bg.oK hW'.bg.blk (by decide));have hbW:∀k,(k=hb\/vK.ownBlock=some k)->k<W.heap.size:=λk hd=>by
  rcases hd with rfl|e
  ·rw[<-h.eqb];exact h.bg.blk.lt
  ·exact(h.bg.oK.lt k e).2
 have hat':∀k,(Value.slice (some ⟨g7,0,none⟩) (nk+1) cap7).ownBlock=some k->vK.ownBlock=some k\/W.heap.size<=k:=λk hk=>by
  have:k=g7:=by simpa[Value.ownBlock]using hk.symm
  subst this;rcases hat with e|e
  ·exact .inl e.symm
  ·exact .inr e
 refine⟨by rw[<-h.eqb];exact⟨hk7.cell 6,hk7.frozen 6⟩,{y with bg:=bN y.bg nk p.g},_,h.bg.book p (by rw[h.eqb];exact o3) (hbn.only o4 λk hk hd=>by have:=hp k hk;have:=hbW k hd;omega) hp ?_ (bK hown o2 λk hk e=>bB hown hk7 (by decide) (by rw[hk,e,h.eqb])) hat' h.bel.size,h.eqb,?_,?_,h.cl⟩
 ·have:=hk7.set_ 6 (.slice (some ⟨g7,0,none⟩) (nk+1) cap7);rw[h.eqb]at this⊢;exact this
 ·refine(o3.to_below (λx hx hd hx2=> ?_) h.bel.size)|>h.bel.trans
  rcases hx2 with rfl|e
  ·exact absurd h.low (by omega)
  ·have:=(h.bg.oK.lt x e).1;omega
 ·exact h.kb.only o3 (λhd=>by
   rcases hd with e|e
   ·exact Blk.ne_ h.kb h.bg.blk (by decide) (by rw[e,h.eqb])
   ·exact bB h.bg.oK h.kb (by decide) e)
theorem BgA.start{og ob lb:Nat}(hm:0<c.m)(hw:uR w W)(hblk:Blk W hb 72 #[.int .i64 c.br,.slice c.la.A c.la.n c.la.c,.int .i64 c.tk,.slice c.mi.A c.mi.n c.mi.c,.int .i64 c.cap,.slice none 0 0,.slice none 0 0,.pointer (some ⟨og,0,none⟩),.map (some lb)])(hof:OfAt W w.heap.size og ob (.slice none 0 0) [] 0 λ_ _=>0)(hls:LostMap W lb 0 λ_=>false)(hcb:Blk W cb 24 c.cells.toArray)(hlow:w.heap.size<=hb/\w.heap.size<=og/\w.heap.size<=ob/\w.heap.size<=lb/\w.heap.size<=cb)(hne:ob≠lb)(hno:og≠lb)(hnh:hb≠lb):∃y ow,BgA w W c cb hb 0 0 y (.slice none 0 0) (.slice none 0 0) ow:=by
 have n1:hb≠og:=Blk.ne_ hblk hof.blk (by decide);have n2:hb≠ob:=zGg hblk hof.map;have n3:og≠ob:=zGg hof.blk hof.map;refine⟨⟨hb,0,0,0,0,og,ob,lb,λ_=>⟨0,0,0,0,0⟩,λ_=>0⟩,λk=>if k=hb then .con else if k=og\/k=ob then .off else if k=lb then .lst else .no,⟨hblk,qH _ _ _ _,qH _ _ _ _,λi hi=>by omega,λi hi=>by omega,λi hi=>by omega,λi hi=>by omega,λi hi=>by omega,λj hj=>by omega,⟨⟨.slice none 0 0,[],0,hof,qA _,rfl,λp hp=>(by cases hp),λk hk=>(by cases hk)⟩,?_,?_⟩,⟨⟨0,hls,qA _⟩,?_⟩,if_pos rfl,λi hi=>by omega,λk hk=>(by cases hk),λk hk=>(by cases hk),λk hk=> ?_,λk hk=> ?_,hm⟩,rfl,hw,hcb,hlow.2.2.2.2⟩
 ·exact(if_neg (Ne.symm n1)).trans (if_pos (.inl rfl))
 ·exact(if_neg (Ne.symm n2)).trans (if_pos (.inr rfl))
 ·exact((if_neg (Ne.symm hnh)).trans (if_neg (by rintro(e|e);exact hno e.symm;exact hne e.symm))).trans (if_pos rfl)
 ·refine Nat.not_lt.1 λhlt=>hk ?_
  rw[if_neg (by omega),if_neg (by omega),if_neg (by omega)]
 ·have h1:=hblk.lt;have h2:=hof.blk.lt;have h3:=hof.map.lt;have h4:=hls.lt;rw[if_neg (by omega),if_neg (by omega),if_neg (by omega)]
end
section
variable {w:World}{c:Cfg}
theorem yFd(hc:c.ok w w.heap.size)(hcf:bH c=true):Calls prog 39 #[c.val] w λe w'=>∃y ow,e= .returned (.pointer (some ⟨y.hb,0,none⟩))/\PW w' c y (WS.new c) 0 w.heap.size ow/\uR w w':=by
 obtain⟨⟨hn,hn1,hn8⟩,hln,htk,hm3,hcap,hla,hmi⟩:=bJ hcf;have hmpos:0<c.m:=hm3.1;obtain⟨iS,hiS,zS,hzS,hcS,hsS,hyS⟩:∃i,prog.info? 84=some i/\∃z,i.zero=some z/\z.cells.toList=[Value.int .i64 0,.int .i64 0,.int .i64 0,.slice none 0 0]/\i.size=4/\i.bytes=48:=gY (by kernel_rfl);obtain⟨iI,hiI,hzI,hsI,hyI⟩:∃i,prog.info? 3=some i/\i.zero=some (.int .i64 0)/\i.size=1/\i.bytes=8:=gU (by kernel_rfl);obtain⟨iL,hiL,zL,hzL,hcL,hsL,hyL⟩:∃i,prog.info? 103=some i/\∃z,i.zero=some z/\z.cells.toList=[Value.slice none 0 0]/\i.size=1/\i.bytes=24:=gY (by kernel_rfl);obtain⟨iP,hiP,hzP,hsP,hyP⟩:∃i,prog.info? 76=some i/\i.zero=some (.pointer none)/\i.size=1/\i.bytes=8:=gU (by kernel_rfl);obtain⟨iK,hiK,hzK,hsK,hyK⟩:∃i,prog.info? 73=some i/\i.zero=some (.pointer none)/\i.size=1/\i.bytes=8:=gU (by kernel_rfl);have hzc:zS.cells=#[.int .i64 0,.int .i64 0,.int .i64 0,.slice none 0 0]:=by rw[<-uD];exact hcS
 have hmkS:=λW=>dN (P:=prog) 77 84 iS _ underlying77 hiS hzS .i64 .i64 c.m c.m (qA _) (by rw[hyS];omega) (by omega) W
 rw[hsS,hzc,show madeCells #[Value.int .i64 0,.int .i64 0,.int .i64 0,.slice none 0 0] (c.m*4)=zIh c.m from rfl]at hmkS;have hmkI:=λW=>dN (P:=prog) 22 3 iI _ underlying22 hiI hzI .i64 .i64 c.m c.m (qA _) (by rw[hyI];omega) (by omega) W
 rw[hsI,Nat.mul_one,show(Value.int .i64 0).cells=#[Value.int .i64 0]from rfl]at hmkI;have hmkT:=λW=>dN (P:=prog) 79 103 iL _ underlying79 hiL hzL .i64 .i64 c.ln c.ln (qA _) (by rw[hyL];omega) (by omega) W
 rw[hsL,Nat.mul_one,zGw c.ln zL.cells hcL]at hmkT;obtain⟨HMS,HMI,HMT⟩:=uJ hmkS hmkI hmkT;obtain⟨cb,hcb⟩:=kB w.heap.size;obtain⟨wx,hwx⟩:=kB (w.alloc (.cells c.cells.toArray 24));have hbx:=uH hwx;have kc:Blk wx cb 24 c.cells.toArray:=by rw[hwx,hcb];exact Blk.new _ _ _
 obtain⟨HBX,HKC,HCB,HWX,HN,HC,HCF,HMI2,HMN,HLN2⟩:=uQ hbx kc hcb hwx hn hc hcf hmi (show c.mi.n=c.m from hc.2.1.1.symm) (show c.la.n=c.ln from hc.1.1.symm);have HNEW:=uT (λW=>zWg W w.heap.size);have d0:=λn:Ext wx=>n.cell (show wx.cell? ⟨cb,0,none⟩=some (.int .i64 c.br)from kc.cell 0)
 have d1:=λn:Ext wx=>n.cell (show wx.cell? ⟨cb,1,none⟩=some (.slice c.la.A c.la.n c.la.c)from kc.cell 1)
 have d2:=λn:Ext wx=>n.cell (show wx.cell? ⟨cb,2,none⟩=some (.int .i64 c.tk)from kc.cell 2)
 have d3:=λn:Ext wx=>n.cell (show wx.cell? ⟨cb,3,none⟩=some (.slice c.mi.A c.mi.n c.mi.c)from kc.cell 3)
 have d4:=λn:Ext wx=>n.cell (show wx.cell? ⟨cb,4,none⟩=some (.int .i64 c.cap)from kc.cell 4)
 clear hbx kc hcb hwx hn hc hcf hla hmi htk hcap hmkS hmkI hmkT hzc hcS hzS;unfold Cfg.val;go_enter func39,ntmps39;go_upto_region 1 with fail;rw[zOc c,<-HWX.s,<-HCB.s]
 go_cut [3] (λs3 W=>∃hb,s3= .pointer (some ⟨hb,0,none⟩)/\uS (∃y ow,BgA w W c cb hb 0 0 y (.slice none 0 0) (.slice none 0 0) ow))
 case first=>
  refine fQ [0] [1,2,3,4,5] yBu (by kernel_rfl) (by kernel_rfl) (by intro c a d v w h;cases d<;>exact h) ?_;simp only[bC,qK,qN,qD]
  repeat(go_big_quiet_step (fail))
  refine qF ?_;clear d0 d1 d2 d3 d4;have hd0:uR wx wx.drew:=(qC _ wx).drew;generalize wx.drew=wd at hd0⊢;unfold yBu;refine zBa ?_ ?_
  ·refine bO λK0 hK0=> ?_
   simp only[bC,qK,qN,qD,qE];go_wp2_with fail;refine(HNEW.s wd).mono ?_;rintro _ w2 ⟨og,ob,rfl,hof,hbo,hgl,hbl2⟩;go_wp2_with fail;refine hK0 _ w2 (λ_=>⟨⟨_,hd0.trans (hbo.mono hd0.size)⟩,rfl⟩) ?_;clear hK0 K0;refine bO λK0 hK0=> ?_
   simp only[bC,qK,qN,qD,qE];have hmm:= @run_makeMap prog;go_wp2_with fail;clear hmm;obtain⟨w3,hwm⟩:=kB (w2.alloc (.map #[] 0));obtain⟨lb,hlb⟩:=kB w2.heap.size;have hbm:=uH hwm;have hls:LostMap w3 lb 0 (λ_=>false):=by rw[hwm,hlb];exact LostMap.made w2
   rw[<-hwm,<-hlb];have hle:w2.heap.size<=lb:=by rw[hlb];exact qA _
   clear hwm hlb;refine hK0 _ w3 (λ_=>⟨⟨_,(hd0.trans (hbo.mono hd0.size)).trans (hbm.mono (qL hd0.size hbo.size))⟩,rfl⟩) ?_;clear hK0 K0;have hof3:=(hof.calm hbm);have hls3:=hls;have hB3:uR wx w3:=(hd0.trans (hbo.mono hd0.size)).trans (hbm.mono (qL hd0.size hbo.size));have hne:ob≠lb:=by have:=hof.map.lt;omega
   have hno:og≠lb:=by have:=hof.blk.lt;omega
   have hbw0:=HBX.s.size;have hdz:=hd0.size;have hoz:=hbo.size;have hll:w.heap.size<=lb/\w.heap.size<=og/\w.heap.size<=ob:=by omega
   refine bO λK0 hK0=> ?_
   simp only[bC,qK,qN,qD,qE];go_wp2_with fail;refine hK0 _ w3 (λ_=>⟨⟨_,hB3⟩,rfl⟩) ?_;clear hK0 K0;refine bO λK0 hK0=> ?_
   simp only[bC,qK,qN,qD,qE];go_wp2_with fail;obtain⟨w4,hw4⟩:=kB (w3.alloc (.cells #[.int .i64 c.br,.slice c.la.A c.la.n c.la.c,.int .i64 c.tk,.slice c.mi.A c.mi.n c.mi.c,.int .i64 c.cap,.slice none 0 0,.slice none 0 0,.pointer (some ⟨og,0,none⟩),.map (some lb)] 72));obtain⟨hb,hhb⟩:=kB w3.heap.size;have hb4:=uH hw4;have k4:Blk w4 hb 72 #[.int .i64 c.br,.slice c.la.A c.la.n c.la.c,.int .i64 c.tk,.slice c.mi.A c.mi.n c.mi.c,.int .i64 c.cap,.slice none 0 0,.slice none 0 0,.pointer (some ⟨og,0,none⟩),.map (some lb)]:=by rw[hw4,hhb];exact Blk.new _ _ _
   rw[<-hw4,<-hhb];have hB4:=hB3.trans (hb4.mono hB3.size);have hnh:hb≠lb:=by have:=hls3.lt;omega
   have hst:=BgA.start (w:=w) (c:=c) (cb:=cb) hmpos (HBX.s.trans (hB4.mono HBX.s.size)) k4 (hof3.calm hb4) (hls3.below hb4) (HKC.s.below hB4 HKC.s.lt) ⟨by have:=hB3.size;omega,hll.2.1,hll.2.2,hll.1,by rw[HCB.s];exact qA _⟩ hne hno hnh;refine hK0 _ w4 (λ_=>⟨⟨_,hB4⟩,rfl⟩) ?_;clear hK0 K0 hw4 hhb;refine bO λK0 hK0=> ?_
   simp only[bC,qK,qN,qD,qE];go_wp2_with fail;refine hK0 _ w4 (λ_=>⟨⟨_,hB4⟩,rfl⟩) ?_;refine gX ?_;go_wp2_with fail;go_meet;exact⟨hb,rfl,uT hst⟩
  ·refine bO λK0 hK0=> ?_
   simp only[bC,qK,qN,qD,qE];have hmm:= @run_makeMap prog;go_wp2_with fail;clear hmm;obtain⟨w2,hwm⟩:=kB (wd.alloc (.map #[] 0));obtain⟨lb,hlb⟩:=kB wd.heap.size;have hbm:=uH hwm;have hls:LostMap w2 lb 0 (λ_=>false):=by rw[hwm,hlb];exact LostMap.made wd
   rw[<-hwm,<-hlb];have hle:wd.heap.size<=lb:=by rw[hlb];exact qA _
   clear hwm hlb;refine hK0 _ w2 (λ_=>⟨⟨_,hd0.trans (hbm.mono hd0.size)⟩,rfl⟩) ?_;clear hK0 K0;refine bO λK0 hK0=> ?_
   simp only[bC,qK,qN,qD,qE];go_wp2_with fail;refine(HNEW.s w2).mono ?_;rintro _ w3 ⟨og,ob,rfl,hof,hbo,hgl,hbl2⟩;go_wp2_with fail;refine hK0 _ w3 (λ_=>⟨⟨_,(hd0.trans (hbm.mono hd0.size)).trans (hbo.mono (qL hd0.size hbm.size))⟩,rfl⟩) ?_;clear hK0 K0;have hof3:=hof;have hls3:=hls.below hbo;have hB3:uR wx w3:=(hd0.trans (hbm.mono hd0.size)).trans (hbo.mono (qL hd0.size hbm.size));have hne:ob≠lb:=by have:=hls.lt;omega
   have hno:og≠lb:=by have:=hls.lt;omega
   have hbw0:=HBX.s.size;have hdz:=hd0.size;have hmz:=hbm.size;have hll:w.heap.size<=lb/\w.heap.size<=og/\w.heap.size<=ob:=by omega
   refine bO λK0 hK0=> ?_
   simp only[bC,qK,qN,qD,qE];go_wp2_with fail;refine hK0 _ w3 (λ_=>⟨⟨_,hB3⟩,rfl⟩) ?_;clear hK0 K0;refine bO λK0 hK0=> ?_
   simp only[bC,qK,qN,qD,qE];go_wp2_with fail;obtain⟨w4,hw4⟩:=kB (w3.alloc (.cells #[.int .i64 c.br,.slice c.la.A c.la.n c.la.c,.int .i64 c.tk,.slice c.mi.A c.mi.n c.mi.c,.int .i64 c.cap,.slice none 0 0,.slice none 0 0,.pointer (some ⟨og,0,none⟩),.map (some lb)] 72));obtain⟨hb,hhb⟩:=kB w3.heap.size;have hb4:=uH hw4;have k4:Blk w4 hb 72 #[.int .i64 c.br,.slice c.la.A c.la.n c.la.c,.int .i64 c.tk,.slice c.mi.A c.mi.n c.mi.c,.int .i64 c.cap,.slice none 0 0,.slice none 0 0,.pointer (some ⟨og,0,none⟩),.map (some lb)]:=by rw[hw4,hhb];exact Blk.new _ _ _
   rw[<-hw4,<-hhb];have hB4:=hB3.trans (hb4.mono hB3.size);have hnh:hb≠lb:=by have:=hls3.lt;omega
   have hst:=BgA.start (w:=w) (c:=c) (cb:=cb) hmpos (HBX.s.trans (hB4.mono HBX.s.size)) k4 (hof3.calm hb4) (hls3.below hb4) (HKC.s.below hB4 HKC.s.lt) ⟨by have:=hB3.size;omega,hll.2.1,hll.2.2,hll.1,by rw[HCB.s];exact qA _⟩ hne hno hnh;refine hK0 _ w4 (λ_=>⟨⟨_,hB4⟩,rfl⟩) ?_;clear hK0 K0 hw4 hhb;refine bO λK0 hK0=> ?_
   simp only[bC,qK,qN,qD,qE];go_wp2_with fail;refine hK0 _ w4 (λ_=>⟨⟨_,hB4⟩,rfl⟩) ?_;refine gX ?_;go_wp2_with fail;go_meet;exact⟨hb,rfl,uT hst⟩
 case rest=>
  obtain⟨hb,rfl,HST⟩:=hcut;obtain⟨y0,ow0,hst⟩:=HST.s;have HS0:=uT hst;clear d0 d1 d2 d3 d4;have c0:wc.cell? ⟨cb,0,none⟩=some (.int .i64 c.br):=hst.kb.cell 0;rw[HN.s]at c0;clear hst HST;go_wp2_with fail
  go_loopw [15] (λi wr=>∃(k:Nat) (y:Lay) (vB:Value) (ow:Nat->Tag),k<=c.n/\i= .int .i64 k/\uS (BgA w wr c cb hb k 0 y vB (.slice none 0 0) ow)) (λi _=>c.n-(intOf i).toNat)
  case atStart=>exact⟨0,y0,.slice none 0 0,ow0,qO _,rfl,HS0⟩
  case round=>
   obtain⟨k,y,vB,ow,hk,rfl,HA⟩:=hrel;by_cases hlt:k<c.n
   ·
    have hlt':(k:Int)<(c.n:Int):=by omega
    have c3:wr.cell? ⟨cb,3,none⟩=some (.slice c.mi.A c.mi.n c.mi.c):=HA.s.kb.cell 3;rw[HMN.s]at c3;clear c0;go_upto_region 5 with fail;clear c3;obtain⟨A,cB,hvB,_⟩:=bG HA.s.bg.oB;subst hvB;have e1:=λn:Ext wr=>n.cell (show wr.cell? ⟨cb,1,none⟩=some (.slice c.la.A c.ln c.la.c)by have h:=HA.s.kb.cell 1;rw[<-HLN2.s];exact h)
    have e5:=λn:Ext wr=>n.cell HA.s.cell.1
    refine zMg [0] [1,2,3,4,5,7,9,11,12,13] [6,8,10,14,15,16,17] 18 [19,20,21] (permT 4 [6,8,10,14] restBg) (by kernel_rfl) (by kernel_rfl) (by intro c a d v w h;cases d<;>exact h) ?_;simp only[bC,qK,qN,qD,qE]
    repeat(go_big_quiet_step (fail))
    refine qF ?_
    repeat(go_big_quiet_step (fail))
    refine qF ?_;clear e1 e5;have hB0:uR wr wr.drew:=(qC _ wr).drew;generalize wr.drew=wd at hB0⊢;refine zYm (λβ=>⟨#[.agg c.cells.toArray,.pointer (some ⟨cb,0,none⟩),.pointer none,.pointer (some ⟨hb,0,none⟩),.int .i64 c.m,undef,undef,undef,u8,u9,u10,u11,u12,.pointer (some ⟨cb,0,none⟩),.int .i64 c.n,.int .i64 k,.bool true,.pointer (some ⟨cb,3,none⟩),.slice c.mi.A c.m c.mi.c,.int .i64 c.m,.pointer (some ⟨hb,0,none⟩),.pointer (some ⟨hb,0,none⟩),.pointer (some ⟨hb,0,none⟩),.pointer (some ⟨hb,5,none⟩),.slice A k cB,.int .i64 c.m,(β 6).elim u26 λb=> .slice (some ⟨b,0,none⟩) c.m c.m,.int .i64 c.m,(β 8).elim u28 λb=> .slice (some ⟨b,0,none⟩) c.m c.m,.int .i64 c.m,(β 10).elim u30 λb=> .slice (some ⟨b,0,none⟩) c.m c.m,.pointer (some ⟨cb,1,none⟩),.slice c.la.A c.ln c.la.c,.int .i64 c.ln,(β 14).elim u34 λb=> .slice (some ⟨b,0,none⟩) c.ln c.ln,u35,u36,u37,u38,u39,u40,u41,u42,undef,undef,undef,u46,u47,u48,u49,u50,u51,u52,u53,u54,u55,u56,u57,u58,u59,u60,u61,u62,u63,u64,u65,u66,u67,u68,u69,u70],[]⟩) (RowP wr c) [6,8,10,14] ?_ ?_ 4 [6,8,10,14] (λ_=>none) wd rfl (by decide) (λq hq=>⟨hq,rfl⟩) (λq hq=> .inl hq) ⟨hB0,λ_ e=>(by cases e),λ_ e=>(by cases e),λ_ e=>(by cases e),λ_ e=>(by cases e),λ_ _ e=>(by cases e)⟩
    ·intro q hq β W t hI hnext hb;have hmS:=HMS.s W;have hmI:=HMI.s W;have hmT:=HMT.s W;dsimp only at hnext⊢;have hq:q=6\/q=8\/q=10\/q=14:=by simpa using hq
     rcases hq with rfl|rfl|rfl|rfl
     ·have hadd:=hI.add _ 6 (λ_=>Blk.new _ _ _) (λe=>by omega) (λe=>by omega);refine bO λK0 hK0=> ?_
      simp only[bC,qK,qN,qD,qE];go_wp2_with fail;exact hK0 _ _ (λ_=>⟨⟨_,hadd.bel⟩,rfl⟩) (hnext _ _ hadd)
     ·have hadd:=hI.add _ 8 (λe=>by omega) (λ_=>zDr W c.m) (λe=>by omega);refine bO λK0 hK0=> ?_
      simp only[bC,qK,qN,qD,qE];go_wp2_with fail;exact hK0 _ _ (λ_=>⟨⟨_,hadd.bel⟩,rfl⟩) (hnext _ _ hadd)
     ·have hadd:=hI.add _ 10 (λe=>by omega) (λ_=>zDr W c.m) (λe=>by omega);refine bO λK0 hK0=> ?_
      simp only[bC,qK,qN,qD,qE];go_wp2_with fail;exact hK0 _ _ (λ_=>⟨⟨_,hadd.bel⟩,rfl⟩) (hnext _ _ hadd)
     ·have hadd:=hI.add _ 14 (λe=>by omega) (λe=>by omega) (λ_=>Blk.new _ _ _);refine bO λK0 hK0=> ?_
      simp only[bC,qK,qN,qD,qE];go_wp2_with fail;exact hK0 _ _ (λ_=>⟨⟨_,hadd.bel⟩,rfl⟩) (hnext _ _ hadd)
    ·intro β W4 hall hI;obtain⟨bs,e6⟩:=hall 6 (by simp);obtain⟨ba,e8⟩:=hall 8 (by simp);obtain⟨bg,e10⟩:=hall 10 (by simp);obtain⟨bt,e14⟩:=hall 14 (by simp);have hR:Row4 wr c bs ba bg bt W4:=⟨hI.bel,(hI.s bs e6).1,(hI.a ba e8).1,(hI.g bg e10).1,(hI.t bt e14).1,⟨(hI.s bs e6).2,(hI.a ba e8).2,(hI.g bg e10).2,(hI.t bt e14).2⟩,hI.ag ba bg e8 e10⟩;dsimp only;rw[e6,e8,e10,e14];clear hall hI e6 e8 e10 e14;dsimp only[Option.elim];have HR:=uT hR;unfold restBg;refine bO λK0 hK0=> ?_
     simp only[bC,qK,qN,qD,qE];go_wp2_with fail;refine hK0 _ W4 (λ_=>⟨⟨_,HR.s.bel⟩,rfl⟩) ?_;clear hK0 K0;refine bO λK0 hK0=> ?_
     simp only[bC,qK,qN,qD,qE];go_wp2_with fail;obtain⟨w5,hw5⟩:=kB (W4.alloc (.cells #[.slice (some ⟨bs,0,none⟩) c.m c.m,.slice (some ⟨ba,0,none⟩) c.m c.m,.slice (some ⟨bg,0,none⟩) c.m c.m,.slice (some ⟨bt,0,none⟩) c.ln c.ln] 81));obtain⟨bb,hbb⟩:=kB W4.heap.size;have hb5:=uH hw5;have k5:Blk w5 bb 81 #[.slice (some ⟨bs,0,none⟩) c.m c.m,.slice (some ⟨ba,0,none⟩) c.m c.m,.slice (some ⟨bg,0,none⟩) c.m c.m,.slice (some ⟨bt,0,none⟩) c.ln c.ln]:=by rw[hw5,hbb];exact Blk.new _ _ _
     rw[<-hw5,<-hbb];have hB5:=hR.bel.trans (hb5.mono hR.bel.size);have hbn:BrNew w5 c wr.heap.size ⟨bb,bs,ba,bg,bt⟩:=⟨k5,hR.s.below hb5 hR.s.lt,Blk.below hR.a hb5 (Blk.lt hR.a),Blk.below hR.g hb5 (Blk.lt hR.g),hR.t.below hb5 hR.t.lt,⟨by have:=hR.bel.size;rw[hbb];exact this,hR.low⟩,hR.ag⟩;obtain⟨HBN,HB5⟩:=uI hbn hB5;refine hK0 _ w5 (λ_=>⟨⟨_,hB5⟩,rfl⟩) ?_;clear hK0 K0 hw5 hbb hb5 k5 hbn hR;refine bO λK0 hK0=> ?_
     simp only[bC,qK,qN,qD,qE];go_wp2_with fail;refine hK0 _ _ (λ_=>⟨⟨_,hB5.alloc hB5.size _⟩,rfl⟩) ?_;have hown:=bM HA.s.bg.oB hB5;obtain⟨HOWN,HMQ⟩:=uI hown (show(k+1)*8<=140737488355328 by omega);have hsz:w.heap.size<=w5.heap.size:=qL HA.s.bel.size hB5.size;clear hK0 K0 hown;refine bO λK0 hK0=> ?_
     simp only[bC,qK,qN,qD,qE];go_wp2_with(at_builtin;(refine bE w5 rfl (.tmp 24) (.tmp 37) _ rfl w.heap.size 76 iP _ 1 8 underlying67 hiP hzP hsP hyP rfl (by omega) (by omega) _ k _ HOWN.s rfl _ 1 _ rfl rfl rfl (by simp[Value.oneCell']) HMQ.s hsz ?_);intro g7 cap7 w7 hg7 hown7 hbel7 hgr7 hat7);obtain⟨⟨u0,u1⟩,y2,ow2,h9⟩:=HA.s.branch hB5 HBN.s hgr7 hown7 (by
      rcases hat7 with e|e
      ·exact .inl e
      ·exact .inr (by have:=hB5.size;omega))
     have H9:=uT (show uS (∃y vB ow,BgA w (w7.setCell ⟨hb,5,none⟩ (.slice (some ⟨g7,0,none⟩) (k+1) cap7)) c cb hb (k+1) 0 y vB (.slice none 0 0) ow)from uT ⟨_,_,_,h9⟩);clear h9 hg7 hown7 hbel7 hgr7 hat7;refine hK0 _ w7 (λh=>absurd h (by decide)) ?_;clear hK0 K0
     repeat
      refine bO λK0 hK0=> ?_
      simp only[bC,qK,qN,qD,qE];go_wp2_with fail;refine hK0 _ _ (λh=>absurd h (by decide)) ?_;clear hK0 K0
     refine gX ?_;go_wp2_with fail;go_roundw
     case rel=>obtain⟨y2,vB2,ow2,h2⟩:=unhide H9.s;exact⟨k+1,y2,vB2,ow2,by omega,by go_num,uT h2⟩
     case measure=>simp[intOf];omega
   ·obtain rfl:k=c.n:=by omega
    have c3:wr.cell? ⟨cb,3,none⟩=some (.slice c.mi.A c.mi.n c.mi.c):=HA.s.kb.cell 3;rw[HMN.s]at c3;clear c0;go_wp2_with fail
    go_loopw [45] (λi wr=>∃(k:Nat) (y:Lay) (vK:Value) (ow:Nat->Tag),k<=c.m/\i= .int .i64 k/\uS (BgA w wr c cb hb c.n k y vB vK ow)) (λi _=>c.m-(intOf i).toNat)
    case atStart=>exact⟨0,y,.slice none 0 0,ow,qO _,rfl,HA⟩
    case round=>
     obtain⟨k,y,vK,ow,hk,rfl,HA⟩:=hrel;by_cases hltk:k<c.m
     ·have hltk':(k:Int)<(c.m:Int):=by omega
      obtain⟨bm,om,z,hA,_,hz,hcz⟩:=dQ ((HC.s.2.1.2.2.2.below HA.s.bel)) (show k<c.mi.n by rw[HMN.s];exact hltk);have hzk:c.mi.zs.getD k 0=z:=by rw[qG,hz];rfl
      have hzb:=HMI2.s z (qB hz);have c0:wr.cell? ⟨cb,0,none⟩=some (.int .i64 c.br):=HA.s.kb.cell 0;rw[HN.s]at c0;have c2:wr.cell? ⟨cb,2,none⟩=some (.int .i64 c.tk):=HA.s.kb.cell 2;have c4:wr.cell? ⟨cb,4,none⟩=some (.int .i64 c.cap):=HA.s.kb.cell 4;obtain⟨HBN,HZK⟩:=uI (yBb w.heap.size c.n c.cap c.tk wr hn8 HA.s.bel.size) hzk;rw[hA];clear c3 hz hzk;go_wp2_with fail;refine HBN.s.mono ?_;rintro _ w5 ⟨p,rfl,hbk,hb5,hph⟩;obtain⟨HST,HB5,HPH⟩:=uJ (zVu w.heap.size c.n p c.cap c.tk (BkS.new c.n) w5 z hbk (by show(0:Int)<=0/\(0:Int)<=1048576;omega) (by show(0:Int)<=0/\(0:Int)<=1048576;omega) hzb) hb5 hph;clear hbk hb5 hph c0 c2 c4 HBN;go_wp2_with fail;refine HST.s.mono ?_;rintro _ w6 ⟨rfl,hbk6,ho6⟩;have hb6:uR wr w6:=HB5.s.trans (ho6.to_below (λx hx hx2 hx3=>by have:=HPH.s x hx3;omega) HB5.s.size);rw[<-HZK.s]at hbk6;obtain⟨HBK,HB6⟩:=uI hbk6 hb6;obtain⟨A6,cK,hvK,_⟩:=bG HA.s.bg.oK;subst hvK;have hown:=bM HA.s.bg.oK hb6;have h6c:=(HA.s.calm hb6).cell.2.1;obtain⟨HOWN,HMQ⟩:=uI hown (show(k+1)*8<=140737488355328 by omega);have hsz:w.heap.size<=w6.heap.size:=qL HA.s.bel.size hb6.size;clear hbk6 ho6 hb6 hown HST;go_wp2_with(first
       |(at_builtin;(refine bE w6 rfl (.tmp 63) (.tmp 65) _ rfl w.heap.size 73 iK _ 1 8 underlying68 hiK hzK hsK hyK rfl (by omega) (by omega) _ k _ HOWN.s rfl _ 1 _ rfl rfl rfl (by simp[Value.oneCell']) HMQ.s hsz ?_);intro g7 cap7 w7 hg7 hown7 hbel7 hgr7 hat7
         obtain⟨⟨u0,u1⟩,y2,ow2,h9⟩:=HA.s.book HB6.s HBK.s HPH.s hgr7 hown7 (by
          rcases hat7 with e|e
          ·exact .inl e
          ·exact .inr (by have:=HB6.s.size;omega))
         have H9:=uT h9;clear h9 hg7 hown7 hbel7 hgr7 hat7))
      go_roundw
      case rel=>exact⟨k+1,y2,_,ow2,by omega,by go_num,H9⟩
      case measure=>simp[intOf];omega
     ·obtain rfl:k=c.m:=by omega
      obtain⟨y3,ow3,h3,hp3⟩:=HA.s.bg.done (HC.s.below HA.s.bel) HCF.s HA.s.bel.size;have HF:=uT (And.intro (h3.trans HA.s.eqb) (And.intro hp3 HA.s.bel));clear h3 hp3;go_wp2_with fail;go_ret;refine⟨y3,ow3,?_,HF.s.2.1,HF.s.2.2⟩;rw[HF.s.1];rfl
end
end Go.Proofs.YtbolcebmbpepdaaGreatDoor
