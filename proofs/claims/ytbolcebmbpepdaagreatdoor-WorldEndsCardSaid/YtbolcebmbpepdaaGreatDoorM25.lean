/- Contracts. Conditions: those each states. -/
import Derived.Test.YtbolcebmbpepdaaGreatDoorM24
namespace Go.Proofs.YtbolcebmbpepdaaGreatDoor
set_option maxRecDepth 100000
set_option maxHeartbeats 8000000
set_option linter.all false
open Go.RowKit Tryz
section
variable {w:World}{c:Cfg}{y:Lay}{S:WS}{K base:Nat}{ow:Nat->Tag}
set_option maxRecDepth 1000000 in
theorem tick_any(h:PW w c y S K base ow)(N:Nat)(hS:S.ok c N)(hN:N<=10000):Calls prog 63 #[.pointer (some ⟨y.hb,0,none⟩)] w (fI w c y K base ow (zGs c S)):=by
 obtain⟨⟨hn,hn1,hn8⟩,hln,htk,hm3,hcap,hla,hmi⟩:=bK h.may;obtain⟨wb,hwb⟩:=kB w.heap.size;obtain⟨tb,htb⟩:=kB (w.heap.size+1);obtain⟨wx,hwx⟩:=kB ((w.alloc (.cells #[.pointer (some ⟨y.hb,0,none⟩)] 60)).alloc (.cells (bR 0 0).cells.toArray 57));have hbx:uR w wx:=by rw[hwx];exact((qC _ _).alloc (qA _) _).alloc (by simp) _
 have kw:Blk wx wb 60 #[.pointer (some ⟨y.hb,0,none⟩)]:=by rw[hwx,hwb];exact(Blk.new w _ _).alloc _
 have kt:Blk wx tb 57 (bR 0 0).cells.toArray:=by have h1:=Blk.new (w.alloc (.cells #[.pointer (some ⟨y.hb,0,none⟩)] 60)) 57 (bR 0 0).cells.toArray;rw[hwx,htb];simpa using h1
 have hT:TkA w c y (S.tkTo c.m 0 0) K base ow tb wb (bR 0 0) wx ow:=by rw[zUf];exact⟨pw_like _ _ _ _,by unfold wt0;decide,h.calm hbx,Kept.calm hbx,h.fresh _ (by omega),h.fresh _ (by omega),h.bw,by omega,kt,kw,zDn _ _ _ _,zEr _ _ _⟩
 have HT:=uT hT;have w0:=hT.w0;have h5:=hT.h5;obtain⟨HS,HWX,HTB,HWB,HN,HLN,HCP⟩:=uN hS hwx htb hwb hn hln hcap;clear hT hS hwx hbx kw kt hwb htb hn hla hmi htk hln hcap h;obtain⟨iL,hiL,zL,hzL,hcL,hsL,hyL⟩:∃i,prog.info? 22=some i/\∃z,i.zero=some z/\z.cells.toList=[Value.slice none 0 0]/\i.size=1/\i.bytes=24:=zAb (by kernel_rfl);obtain⟨iI,hiI,hzI,hsI,hyI⟩:∃i,prog.info? 3=some i/\i.zero=some (.int .i64 0)/\i.size=1/\i.bytes=8:=gB (by kernel_rfl);have hmk:=λW=>dN (P:=prog) 87 22 iL _ underlying87 hiL hzL .i64 .i64 c.n c.n (qA _) (by rw[hyL];omega) (by omega) W
 rw[hsL,Nat.mul_one,zGy c.n zL.cells hcL]at hmk;have HMK:=uT hmk;clear hmk;go_enter func63,ntmps63;go_upto_region 2 with fail;rw[zAf,<-HWX.s,<-HTB.s,<-HWB.s];go_wp2_with fail
 go_loopw [31] (λi wr=>∃(a:Nat) (ow1:Nat->Tag),a<=c.n/\i= .int .i64 a/\uS (TkA w c y (S.tkTo c.m a 0) K base ow tb wb (bR 0 0) wr ow1)) (λi _=>c.n-(intOf i).toNat)
 case atStart=>exact⟨0,ow,qL _,rfl,HT⟩
 case round=>
  obtain⟨a,ow1,ha,rfl,HA⟩:=hrel;by_cases hlt:a<c.n
  ·have hlt':(a:Int)<(c.n:Int):=by omega
   have b0:=HA.s.br hlt;have d0:=HA.s.s0 hlt;clear w0 h5;go_wp2_with fail
   go_loopw [40] (λi wr=>∃(b:Nat) (ow1:Nat->Tag),b<=c.m/\i= .int .i64 b/\uS (TkA w c y (S.tkTo c.m a b) K base ow tb wb (bR 0 0) wr ow1)) (λi _=>c.m-(intOf i).toNat)
   case atStart=>exact⟨0,ow1,qL _,rfl,HA⟩
   case round=>
    obtain⟨b,ow2,hb,rfl,HB⟩:=hrel;by_cases hltb:b<c.m
    ·have hltb':(b:Int)<(c.m:Int):=by omega
     clear b0 d0;have d0:=HB.s.s0 hlt;have HDO:=uT (zIz (ow:=ow2) zEe a b HB.s.pw hlt hltb N (by have:=HS.s.sh a b;show(if _ then _ else _:Shf).ok _;rw[if_neg (by omega)];exact this) (by omega));unfold zEe Ordr.val at HDO;dsimp only at HDO;go_wp2_with fail;refine HDO.s.mono ?_;rintro _ w3 ⟨rfl,ow3,hp3,hk3⟩;have h3:=HB.s.turn hp3 hk3;have HC:=uT h3;clear hp3 hk3 h3 d0;go_wp2_with fail;go_roundw
     case rel=>exact⟨b+1,ow3,by omega,by go_num,by have e:=zVp S c.m a b;unfold zEe at e;rw[e];exact HC⟩
     case measure=>simp[intOf];omega
    ·obtain rfl:b=c.m:=by omega
     go_wp2_with fail;go_roundw
     case rel=>exact⟨a+1,ow2,by omega,by go_num,by rw[<-zZz];exact HB⟩
     case measure=>simp[intOf];omega
  ·obtain rfl:a=c.n:=by omega
   have hA1:TkA w c y S.aged K base ow tb wb (bR 0 0) wr ow1:=HA.s.turn HA.s.pw.aged (Kept.refl _ _);have HA1:=uT hA1;clear HA HT w0 h5;have w0:=hA1.w0;have h5:=hA1.h5;clear hA1;go_wp2_with fail
   go_loopw [58] (λi wr=>∃(a:Nat) (t:Tol) (ow1:Nat->Tag),a<=c.n/\i= .int .i64 a/\uS (zLg w c y S.aged K base ow tb wb (cA c S.aged a) [] t wr ow1)) (λi _=>c.n-(intOf i).toNat)
   case atStart=>exact⟨0,bR 0 0,ow1,qL _,rfl,uT ⟨by rw[show cA c S.aged 0=[]from rfl,zUe];exact HA1.s,rfl⟩⟩
   case round=>
    obtain⟨a,t,ow2,ha,rfl,HB⟩:=hrel;have hHl:(cA c S.aged a).length<=8*a:=zEi c S.aged hn8 a ha;have HHL:=uT hHl;clear hHl;by_cases hlt:a<c.n
    ·have hlt':(a:Int)<(c.n:Int):=by omega
     have b0:=HB.s.tk.br hlt;clear w0 h5;go_upto_region 14 with fail;clear b0
     go_cut [9] (λs9 W=>uS (∃ow',zLg w c y S.aged K base ow tb wb (cA c S.aged a) [] t W ow'/\BytCut (fQ c (S.ask a)).1 W s9))
     case first=>
      have hB:=HB.s.tk;have hcb:=(hB.pw.pc .con).blk;have e0:=λm:Ext wr=>m.cell (show wr.cell? ⟨y.hb,0,none⟩=some (.int .i64 c.br)from hcb.cell 0)
      have e1:=λm:Ext wr=>m.cell (show wr.cell? ⟨y.hb,1,none⟩=some (.slice c.la.A c.la.n c.la.c)from hcb.cell 1)
      have e2:=λm:Ext wr=>m.cell (show wr.cell? ⟨y.hb,2,none⟩=some (.int .i64 c.tk)from hcb.cell 2)
      have e3:=λm:Ext wr=>m.cell (show wr.cell? ⟨y.hb,3,none⟩=some (.slice c.mi.A c.mi.n c.mi.c)from hcb.cell 3)
      have e4:=λm:Ext wr=>m.cell (show wr.cell? ⟨y.hb,4,none⟩=some (.int .i64 c.cap)from hcb.cell 4)
      have e5:=λm:Ext wr=>m.cell hB.w0
      have e6:=λm:Ext wr=>m.cell (hB.s1 hlt)
      have hask:=hB.asks hlt (HS.s.ask a).1;have HAK:=uT (λW (hW:uR wr W)=>zZk c ⟨some ⟨(y.br a).a,0,none⟩,c.m,c.m,S.ask a⟩ W.heap.size W ((hB.calm hW).pw.cfg.more (hB.calm hW).pw.bw) ((hask.below hW).more hW.size) (qA _));clear hB hcb;unfold Cfg.val zAp at HAK;dsimp only at HAK;clear hask;refine fW [0,1,2,3,4,5,6,7] [8,9,10,11,12,13] (zHo 8) (by kernel_rfl) (by kernel_rfl) (by intro c a d v w h;cases d<;>exact h) ?_;simp only[bB,qJ,qO,qD,qE]
      repeat(go_big_quiet_step (fail))
      refine qF ?_;clear e0 e1 e2 e3 e4 e5 e6;have hd0:uR wr wr.drew:=(qC _ wr).drew;generalize wr.drew=wd at hd0⊢;unfold zHo;refine bP λK0 hK0=> ?_
      simp only[bB,qJ,qO,qD,qE];go_wp2_with fail;refine(HAK.s wd hd0).mono ?_;rintro _ w5 ⟨v5,rfl,ho5,hb5⟩;have hd5:=hd0.trans (hb5.mono hd0.size);have hB5:=HB.s.calm hd5;have HCUT:=uT (show uS (∃ow',zLg w c y S.aged K base ow tb wb (cA c S.aged a) [] t w5 ow'/\BytCut (fQ c (S.ask a)).1 w5 v5)from uT ⟨_,hB5,BytCut.of ho5⟩);clear ho5 hb5 hB5 hd0 HAK;go_wp2_with fail;refine hK0 _ w5 (λ_=>⟨⟨_,hd5⟩,rfl⟩) ?_;clear hK0 K0
      repeat' (first
       |(refine zAx ?_ ?_)
       |(refine gV ?_;go_wp2_with(fail);go_meet;exact HCUT.s)
       |(refine bP λK0 hK0=> ?_;simp only[bB,qJ,qO,qD,qE];go_wp2_with(fail);refine hK0 _ w5 (λ_=>⟨⟨_,hd5⟩,rfl⟩) ?_;clear hK0 K0))
     case rest=>
      obtain⟨ow3,hC,A,n,cc,B,rfl,hdl,hr⟩:=hcut.s;have HC:=uT hC;have hnl:=zFp c (S.ask a) hm3.2;have HSE:=uT (λer=>zJj hC.tk (show(S.lts++_).length<=1000000 by rw[qM];have:=HS.s.len;have:=HHL.s;omega) a c.n er A n cc (fQ c (S.ask a)).1 wc.heap.size hdl (by omega) (Reads.of_own hr) (qA _) (WalkArith.wf_i64 (by omega)) (WalkArith.wf_i64 (by omega)) (by have:=hC.sn;have:=HHL.s;omega));have w0:=hC.tk.w0;have h0:=hC.tk.h0;rw[HN.s]at h0;clear hC hr hdl hnl;go_wp2_with fail;refine(HSE.s _).mono ?_;rintro _ w3 hp;obtain⟨rfl,t3,ow4,h3,_⟩:=HC.s.send hp;have H3:=uT h3;clear hp w0 h0 HSE HC;have w0:=h3.tk.w0;have h5:=h3.tk.h5;clear h3;go_wp2_with fail
      go_loopw [90] (λi wr=>∃(b:Nat) (t:Tol) (ow1:Nat->Tag),b<=c.n/\i= .int .i64 b/\uS (zLg w c y S.aged K base ow tb wb (cA c S.aged a++(⟨a,c.n,(fQ c (S.ask a)).1⟩::zAv c S.aged a b)) [] t wr ow1)) (λi _=>c.n-(intOf i).toNat)
      case atStart=>exact⟨0,t3,ow4,qL _,rfl,H3⟩
      case round=>
       obtain⟨b,t,ow5,hb,rfl,HB⟩:=hrel;have HRL:=uT (zZp c S.aged a b);by_cases hltb:b<c.n
       ·have hltb':(b:Int)<(c.n:Int):=by omega
        have hsu:=zOz c S.aged a b;clear w0 h5;by_cases hba:b=a
        ·subst hba;rw[if_pos rfl]at hsu;have HSU:=uT hsu;clear hsu;have hne:((b:Int) !=(b:Int))=false:=by simp
         go_wp2_with fail;go_roundw
         case rel=>exact⟨b+1,t,ow5,by omega,by go_num,by rw[HSU.s];exact HB⟩
         case measure=>simp[intOf];omega
        ·rw[if_neg hba]at hsu;have HSU:=uT hsu;clear hsu;have hne:((b:Int) !=(a:Int))=true:=by simp;omega
         go_upto_region 20 with fail
         go_cut [12] (λs12 W=>uS (∃ow',zLg w c y S.aged K base ow tb wb (cA c S.aged a++(⟨a,c.n,(fQ c (S.ask a)).1⟩::zAv c S.aged a b)) [] t W ow'/\BytCut (bT c a b (S.st a)).1 W s12))
         case first=>
          have hB:=HB.s.tk;have hcb:=(hB.pw.pc .con).blk;have e0:=λm:Ext wr=>m.cell (show wr.cell? ⟨y.hb,0,none⟩=some (.int .i64 c.br)from hcb.cell 0)
          have e1:=λm:Ext wr=>m.cell (show wr.cell? ⟨y.hb,1,none⟩=some (.slice c.la.A c.la.n c.la.c)from hcb.cell 1)
          have e2:=λm:Ext wr=>m.cell (show wr.cell? ⟨y.hb,2,none⟩=some (.int .i64 c.tk)from hcb.cell 2)
          have e3:=λm:Ext wr=>m.cell (show wr.cell? ⟨y.hb,3,none⟩=some (.slice c.mi.A c.mi.n c.mi.c)from hcb.cell 3)
          have e4:=λm:Ext wr=>m.cell (show wr.cell? ⟨y.hb,4,none⟩=some (.int .i64 c.cap)from hcb.cell 4)
          have e5:=λm:Ext wr=>m.cell hB.w0
          have e6:=λm:Ext wr=>m.cell (hB.s3 hlt)
          obtain⟨T,hT1,hT2,hT3⟩:=hB.tab hlt (HS.s.st a).1;have HAK:=uT (λW (hW:uR wr W)=>yCw c a b T W.heap.size W ((hB.calm hW).pw.cfg.more (hB.calm hW).pw.bw) ((hT2.below hW).more hW.size) (qA _));clear hB hcb;rw[hT1,hT3]at HAK;unfold Cfg.val zCa at HAK;clear hT1 hT2 hT3 T;refine fW [0,1,2,3,4,5,6,7,8,9] [10,11,12,13,14,15] (zHo 10) (by kernel_rfl) (by kernel_rfl) (by intro c a d v w h;cases d<;>exact h) ?_;simp only[bB,qJ,qO,qD,qE]
          repeat(go_big_quiet_step (fail))
          refine qF ?_;clear e0 e1 e2 e3 e4 e5 e6;have hd0:uR wr wr.drew:=(qC _ wr).drew;generalize wr.drew=wd at hd0⊢;unfold zHo;refine bP λK0 hK0=> ?_
          simp only[bB,qJ,qO,qD,qE];go_wp2_with fail;refine(HAK.s wd hd0).mono ?_;rintro _ w5 ⟨v5,rfl,ho5,hb5⟩;have hd5:=hd0.trans (hb5.mono hd0.size);have hB5:=HB.s.calm hd5;have HCUT:=uT (show uS (∃ow',zLg w c y S.aged K base ow tb wb (cA c S.aged a++(⟨a,c.n,(fQ c (S.ask a)).1⟩::zAv c S.aged a b)) [] t w5 ow'/\BytCut (bT c a b (S.st a)).1 w5 v5)from uT ⟨_,hB5,BytCut.of ho5⟩);clear ho5 hb5 hB5 hd0 HAK;go_wp2_with fail;refine hK0 _ w5 (λ_=>⟨⟨_,hd5⟩,rfl⟩) ?_;clear hK0 K0
          repeat' (first
           |(refine zAx ?_ ?_)
           |(refine gV ?_;go_wp2_with(fail);go_meet;exact HCUT.s)
           |(refine bP λK0 hK0=> ?_;simp only[bB,qJ,qO,qD,qE];go_wp2_with(fail);refine hK0 _ w5 (λ_=>⟨⟨_,hd5⟩,rfl⟩) ?_;clear hK0 K0))
         case rest=>
          obtain⟨ow6,hC,A2,n2,cc2,B2,rfl,hdl2,hr2⟩:=hcut.s;have HC:=uT hC;have hnl:=zPv c a b (S.st a) HLN.s;have hll:(cA c S.aged a++(⟨a,c.n,(fQ c (S.ask a)).1⟩::zAv c S.aged a b)).length<=100:=by rw[qM,jG];have:=HHL.s;have:=HRL.s;omega
          have HSE:=uT (λer=>zJj hC.tk (show(S.lts++_).length<=1000000 by rw[qM];have:=HS.s.len;omega) a b er A2 n2 cc2 (bT c a b (S.st a)).1 wc.heap.size hdl2 (by omega) (Reads.of_own hr2) (qA _) (WalkArith.wf_i64 (by omega)) (WalkArith.wf_i64 (by omega)) (by have:=hC.sn;omega));have w0:=hC.tk.w0;clear hC hr2 hdl2 hnl hll;go_wp2_with fail;refine(HSE.s _).mono ?_;rintro _ w6 hp;obtain⟨rfl,t4,ow7,h4,_⟩:=HC.s.send hp;have H4:=uT h4;clear hp h4 w0 HSE HC;go_wp2_with fail;go_roundw
          case rel=>exact⟨b+1,t4,ow7,by omega,by go_num,by rw[HSU.s,<-List.cons_append,<-jK];exact H4⟩
          case measure=>simp[intOf];omega
       ·obtain rfl:b=c.n:=by omega
        go_wp2_with fail;go_roundw
        case rel=>exact⟨a+1,t,ow5,by omega,by go_num,by rw[zNk];exact HB⟩
        case measure=>simp[intOf];omega
    ·obtain rfl:a=c.n:=by omega
     have w0:=HB.s.tk.w0;have h0:=HB.s.tk.h0;rw[HN.s]at h0;clear h5;have hk8:=HMK.s wr;obtain⟨w4,hw4⟩:=kB (wr.alloc (.cells (zAy c.n) 22));have hb4:=uH hw4;obtain⟨gb,hgb⟩:=kB wr.heap.size;have k4:Blk w4 gb 22 (zAy c.n):=by rw[hw4,hgb];exact Blk.new _ _ _
     have hG4:zJo w c y (S.aged.rounds c 0) K base ow tb wb (cA c S.aged c.n) (dJ c S 0) gb (List.replicate c.n RwI.nil) t w4 ow2:=by
      have h4:=HB.s.calm hb4;have hsz:=HB.s.tk.kept.only.size;rw[zPt];refine⟨h4,GivA.new k4 (by omega),(PW.fresh HB.s.tk.pw) _ (by omega),λr hr b hb=> ?_,λr hr k hk=> ?_⟩
      ·rw[(uB.1 hr).2]at hb;cases hb
      ·rw[(uB.1 hr).2]at hk;cases hk
     have HG4:=uT hG4;have HZ4:=uT (show(List.replicate c.n RwI.nil).map RwI.zs=(List.range c.n).map (fO c S 0)by rw[List.map_replicate,show fO c S 0=λ_=>[]from rfl,List.map_const',List.length_range];rfl)
     rw[<-hw4,<-hgb]at hk8;clear hw4 hb4 k4 hgb hG4 HB;go_upto_region 25 with fail;clear hk8 w0 h0;have w0:=HG4.s.tk.tk.w0;have h6:=HG4.s.tk.tk.h6;go_wp2_with fail
     go_loopw [129] (λi wr=>∃(k:Nat) (L:List RwI) (t:Tol) (ow1:Nat->Tag),k<=c.m/\i= .int .i64 k/\uS (zJo w c y (S.aged.rounds c k) K base ow tb wb (cA c S.aged c.n) (dJ c S k) gb L t wr ow1)/\uS (L.map RwI.zs=(List.range c.n).map (fO c S k))) (λi _=>c.m-(intOf i).toNat)
     case atStart=>exact⟨0,_,t,ow2,qL _,rfl,HG4,HZ4⟩
     case round=>
      obtain⟨k,L,t,ow2,hk,rfl,HG,HZ⟩:=hrel;by_cases hlt:k<c.m
      ·have hlt':(k:Int)<(c.m:Int):=by omega
       clear w0 h6;have b0:=HG.s.tk.tk.bk hlt;have hbk:((S.aged.rounds c k).posts (cA c S.aged c.n)).bk k=S.bk k:=if_neg (Nat.lt_irrefl k);have hokb:=HS.s.bk k;have HRO:=uT (zSs HG.s.tk.tk.pw k hlt N (by rw[hbk];exact hokb) (by omega));rw[hbk]at HRO;obtain⟨HRS,HPS,HGL,HGR⟩:=uK (rounds_succ S.aged c k) (zKx c S k) (show(zIp c S k).length=c.n from(zQj hokb HCP.s).lg) (λwho=>zOb c S k who);obtain⟨gl,hgl⟩:=kB (zIp c S k);obtain⟨rp,hrp⟩:=kB (zBt c S k);rw[show(fR c.cap c.tk (S.bk k)).2.1=gl from hgl.symm,show(fR c.cap c.tk (S.bk k)).2.2=rp from hrp.symm]at HRO;rw[<-hgl]at HGL HGR;rw[<-hrp]at HPS;clear hbk hokb hgl hrp;go_wp2_with fail;refine HRO.s.mono ?_;rintro _ w5 ⟨A,cc,ow3,rfl,hr5,hp5,hk5,hn5⟩;have hG5:zJo w c y (S.aged.rounds c (k+1)) K base ow tb wb (cA c S.aged c.n) (dJ c S k) gb L t w5 ow3:=HG.s.turn (by rw[HRS.s];exact hp5) hk5 (by rw[HRS.s]);have hgp5:Gap L (.slice A c.n cc):=Gap.of_lt HG.s.giv (qA _) (λq hq=>(hr5.lt q hq).1);have HRB:=uT (show∀q,(Value.slice t.rA t.rn t.rc).ownBlock=some q->q<wr.heap.size from λq hq=>(HG.s.tk.tk.own.ro.lt q hq).2);obtain⟨B5,hB5⟩:=kB wr.heap.size;rw[<-hB5]at hr5 HRB;obtain⟨HG5,HR5,HGP5⟩:=uJ hG5 hr5 hgp5;clear hr5 hp5 hk5 hn5 hG5 hgp5 b0 HG HRO hB5;go_upto_if 139 with fail
       go_cut [] (λW=>uS (∃t ow4,zJo w c y (S.aged.rounds c (k+1)) K base ow tb wb (cA c S.aged c.n) (dJ c S (k+1)) gb L t W ow4/\W.ownsRow B5 3 1 (.slice A c.n cc) c.n (gl.map (.int .i64))))
       case first=>
        by_cases hrp0:0<=rp
        ·have hps:=HPS.s;have hge:decide (rp≥0)=true:=by simpa using hrp0
         rw[if_pos hrp0]at hps;have HPE:=uT hps;have hT5:=HG5.s.tk.tk;have t10:w5.cell? ⟨tb,10,none⟩=some (.slice t.rA t.rn t.rc):=hT5.tk.cell 10;have hown:=hT5.own.ro;have hrn:t.rn<=3:=by
          have h1:=hT5.own.ok.rl;rw[HG5.s.tk.d]at h1;dsimp only at h1;have h2:(dJ c S k).length<=k:=by unfold dJ;refine qN (List.length_filterMap_le _ _) ?_;rw[List.length_range];exact qA _
          omega
         obtain⟨HO,HMQ⟩:=uI hown (show(t.rn+1)*8<=140737488355328 by omega);have hsz:=hT5.kept.only.size;have hrep:t.d.report=dJ c S k:=by rw[HG5.s.tk.d]
         have HREP:=uT hrep;clear hps hown hT5 hrep;go_wp2_with(first
          |(at_builtin;(refine bF w5 rfl (.tmp 141) (.tmp 143) _ rfl w.heap.size 3 iI _ 1 8 underlying22 hiI hzI hsI hyI rfl (by omega) (by omega) _ t.rn _ HO.s rfl _ 1 _ rfl rfl rfl (by simp[Value.oneCell']) HMQ.s hsz ?_);intro g4 cap4 w7 hg4 hown4 hbel4 hgr4 hat4
            have o1:Only (λk=>(Value.slice t.rA t.rn t.rc).ownBlock=some k) w5 w7:=(Only.refl _ w5).grown hgr4 (λg hg _=>hg);have f10:w7.frozen? ⟨tb,10,none⟩=false:=(HG5.s.tk.tk.tk.only o1 (bC HG5.s.tk.tk.own.ro HG5.s.tk.tk.tk (by decide))).frozen 10;have c10:w7.cell? ⟨tb,10,none⟩=some (.slice t.rA t.rn t.rc):=(HG5.s.tk.tk.tk.only o1 (bC HG5.s.tk.tk.own.ro HG5.s.tk.tk.tk (by decide))).cell 10;obtain⟨h8,o8⟩:=HG5.s.report (z:=rp) hgr4 (by rw[HREP.s]at hown4;exact hown4) (by
             rcases hat4 with e|e
             ·exact .inl e
             ·exact .inr (by omega))
            have hr8:=bL HR5.s o8 (λq hq e=>by
             have h1:=(HR5.s.lt q hq).1;rcases e with rfl|e
             ·exact bC HR5.s HG5.s.tk.tk.tk (by decide) hq
             ·have:=HRB.s q e;omega)
            have H8:=uT (show uS (∃t' ow4,zJo w c y (S.aged.rounds c (k+1)) K base ow tb wb (cA c S.aged c.n) (dJ c S (k+1)) gb L t' (w7.setCell ⟨tb,10,none⟩ (.slice (some ⟨g4,0,none⟩) (t.rn+1) cap4)) ow4/\(w7.setCell ⟨tb,10,none⟩ (.slice (some ⟨g4,0,none⟩) (t.rn+1) cap4)).ownsRow B5 3 1 (.slice A c.n cc) c.n (gl.map (.int .i64)))from uT ⟨_,_,by rw[HPE.s];exact h8,hr8⟩);clear h8 o8 hr8 o1 hg4 hown4 hbel4 hgr4 hat4))
         go_meet;exact H8.s
        ·have hps:=HPS.s;rw[if_neg hrp0]at hps;have HPE:=uT hps;have hge:decide (rp≥0)=false:=by simpa using hrp0
         clear hps;go_wp2_with fail;go_meet;exact uT ⟨t,ow3,by rw[HPE.s];exact HG5.s,HR5.s⟩
       case rest=>
        obtain⟨t,ow4,hG,hR⟩:=hcut.s;obtain⟨HG0,HR0,HZ0⟩:=uJ hG hR (show L.map RwI.zs=(List.range c.n).map λi=>if i<0 then fO c S (k+1) i else fO c S k i from HZ.s);clear hG hR HG5 HR5 HRB HZ;go_wp2_with fail
        go_loopw [148] (λi W=>∃(q:Nat) (L:List RwI) (ow1:Nat->Tag),q<=c.n/\i= .int .i64 q/\uS (zJo w c y (S.aged.rounds c (k+1)) K base ow tb wb (cA c S.aged c.n) (dJ c S (k+1)) gb L t W ow1)/\uS (L.map RwI.zs=(List.range c.n).map λi=>if i<q then fO c S (k+1) i else fO c S k i)/\uS (W.ownsRow B5 3 1 (.slice A c.n cc) c.n (gl.map (.int .i64)))/\uS (Gap L (.slice A c.n cc))) (λi _=>c.n-(intOf i).toNat)
        case atStart=>exact⟨0,L,ow4,qL _,rfl,HG0,HZ0,HR0,HGP5⟩
        case round=>
         obtain⟨q,L,ow5,hq,rfl,HG,HZ,HR,HGP⟩:=hrel;by_cases hltq:q<c.n
         ·have hltq':(q:Int)<(c.n:Int):=by omega
          obtain⟨bl,ol,z,hA,_,hz,hcz⟩:=dQ (Reads.of_own HR.s) hltq;have hzl:gl.getD q 0=z:=by rw[qG,hz];rfl
          obtain⟨r,hri,hrz,hstep⟩:=zYj HZ.s hltq (by have:=HGR.s q;rw[hzl]at this;exact this);have hrr:=HG.s.giv.rows r (qB hri);have hcl:=HG.s.giv.cell hri;have hrl:r.zs.length<=3:=by rw[hrz,zVl];omega
          obtain⟨rA,rc,hrv,_⟩:=bE hrr;rw[hrv]at hcl;obtain⟨rn,hrn⟩:=kB r.zs.length;rw[<-hrn]at hcl hrl hrr;have HO:=uT hrr;rw[hrv,<-hrn]at HO;have HMQ:=uT (show(rn+1)*8<=140737488355328 by omega);have hsz:=HG.s.tk.tk.kept.only.size;obtain⟨HRI,HRV,HRN,HST⟩:=uK hri hrv hrn hstep;subst hA;clear hrr hri hrv hrn hstep hzl hz hrz hrl;go_wp2_with(first
           |(at_builtin;(refine bF wr rfl (.tmp 158) (.tmp 160) _ rfl w.heap.size 3 iI _ 1 8 underlying22 hiI hzI hsI hyI rfl (by omega) (by omega) _ rn _ HO.s rfl _ 1 _ rfl rfl rfl (by simp[Value.oneCell']) HMQ.s hsz ?_);intro g4 cap4 w7 hg4 hown4 hbel4 hgr4 hat4
             have hrvn:r.v= .slice rA rn rc:=by rw[HRV.s,HRN.s]
             rw[<-hrvn]at hgr4 hat4;have o1:Only (λk=>r.v.ownBlock=some k) wr w7:=(Only.refl _ wr).grown hgr4 (λg hg _=>hg);have hrr2:=HG.s.giv.rows r (qB HRI.s);have fgb:w7.frozen? ⟨gb,q,none⟩=false:=(HG.s.giv.blk.only o1 (bC hrr2 HG.s.giv.blk (by decide))).frozen q;have cgb:w7.cell? ⟨gb,q,none⟩=some (.slice rA rn rc):=by have h1:=(Blk.cell (HG.s.giv.blk.only o1 (bC hrr2 HG.s.giv.blk (by decide))) q).trans ((HG.s.giv.blk.cell q).symm.trans (HG.s.giv.cell HRI.s));rw[hrvn]at h1;exact h1
             have hat5:(RwI.v ⟨.slice (some ⟨g4,0,none⟩) (rn+1) cap4,r.zs++[z]⟩).ownBlock=r.v.ownBlock\/∃k,(RwI.v ⟨.slice (some ⟨g4,0,none⟩) (rn+1) cap4,r.zs++[z]⟩).ownBlock=some k/\wr.heap.size<=k:=by
              rcases hat4 with e|e
              ·exact .inl (by rw[<-e];rfl)
              ·exact .inr ⟨g4,rfl,by omega⟩
             obtain⟨h8,o8⟩:=HG.s.push (r':=⟨.slice (some ⟨g4,0,none⟩) (rn+1) cap4,r.zs++[z]⟩) HRI.s hgr4 (by dsimp only;rw[qM,<-HRN.s,jA];exact hown4) hat5
             have hr8:=bL HR.s o8 (λx hx e=>by
              rcases e with rfl|e
              ·exact bC HR.s HG.s.giv.blk (by decide) hx
              ·exact HGP.s r (qB HRI.s) x e hx)
             obtain⟨H8,HR8,HGP8,HZ8⟩:=uK h8 hr8 (HGP.s.set_ HRI.s hat5 λx hx=>(HR.s.lt x hx).2) (HST.s (.slice (some ⟨g4,0,none⟩) (rn+1) cap4));clear h8 o8 hr8 o1 hg4 hown4 hbel4 hgr4 hat4 hat5 hrr2 hrvn hcl hcz))
          go_roundw
          case rel=>exact⟨q+1,_,ow5,by omega,by go_num,H8,HZ8,HR8,HGP8⟩
          case measure=>simp[intOf];omega
         ·obtain rfl:q=c.n:=by omega
          have HZF:=uT (zXl HZ.s);go_wp2_with fail;go_roundw
          case rel=>exact⟨k+1,L,t,ow5,by omega,by go_num,HG,HZF⟩
          case measure=>simp[intOf];omega
      ·obtain rfl:k=c.m:=by omega
       clear w0 h6;have HG0:=uT (show zJo w c y (S.aged.rounds c c.m) K base ow tb wb (cA c S.aged c.n++dW c S 0) (dJ c S c.m) gb L t wr ow2 by rw[show dW c S 0=[]from rfl,jR];exact HG.s);clear HG;go_wp2_with fail
       go_loopw [167] (λi W=>∃(q:Nat) (t:Tol) (ow1:Nat->Tag),q<=c.n/\i= .int .i64 q/\uS (zJo w c y (S.aged.rounds c c.m) K base ow tb wb (cA c S.aged c.n++dW c S q) (dJ c S c.m) gb L t W ow1)) (λi _=>c.n-(intOf i).toNat)
       case atStart=>exact⟨0,t,ow2,qL _,rfl,HG0⟩
       case round=>
        obtain⟨q,t,ow5,hq,rfl,HG⟩:=hrel;obtain⟨HSL,HQL⟩:=uI (zEi c S.aged hn8 c.n (qA _)) (zIk c S q);by_cases hltq:q<c.n
        ·have hltq':(q:Int)<(c.n:Int):=by omega
         obtain⟨r,hri,hrz⟩:=giv_at HZ.s hltq;have hrr:=HG.s.giv.rows r (qB hri);have hcl:=HG.s.giv.cell hri;obtain⟨rA,rc,hrv,_⟩:=bE hrr;have hcaps:=fH (by rw[hrv]at hrr;exact hrr);have HAK:=uT (zZk c ⟨rA,r.zs.length,rc,r.zs⟩ wr.heap.size wr (HG.s.tk.tk.pw.cfg.more HG.s.tk.tk.pw.bw) ⟨rfl,hcaps.2.1,hcaps.2.2,by rw[hrv]at hrr;exact Reads.of_own hrr⟩ (qA _));rw[hrv]at hcl;obtain⟨rn,hrn⟩:=kB r.zs.length;rw[<-hrn]at hcl;unfold Cfg.val zAp at HAK;dsimp only at HAK;rw[<-hrn,hrz]at HAK;have hcb:=(HG.s.tk.tk.pw.pc .con).blk;have e0:wr.cell? ⟨y.hb,0,none⟩=some (.int .i64 c.br):=hcb.cell 0;have e1:wr.cell? ⟨y.hb,1,none⟩=some (.slice c.la.A c.la.n c.la.c):=hcb.cell 1;have e2:wr.cell? ⟨y.hb,2,none⟩=some (.int .i64 c.tk):=hcb.cell 2;have e3:wr.cell? ⟨y.hb,3,none⟩=some (.slice c.mi.A c.mi.n c.mi.c):=hcb.cell 3;have e4:wr.cell? ⟨y.hb,4,none⟩=some (.int .i64 c.cap):=hcb.cell 4;have w0:=HG.s.tk.tk.w0;have hnl:=zFp c (fO c S c.m q) hm3.2;have HNL:=uT hnl;clear hcb hri hrz hrr hrv hcaps hrn hnl;go_wp2_with fail;refine HAK.s.mono ?_;rintro _ w6 ⟨v6,rfl,ho6,hb6⟩;have h6:=HG.s.calm hb6;obtain⟨A6,n6,c6,B6,rfl,hdl6,hr6⟩:=BytCut.of ho6;have H6:=uT h6;have hnl:=HNL.s;have hll:(cA c S.aged c.n++dW c S q).length<=100:=by rw[qM];have:=HSL.s;have:=HQL.s;omega
         have HSE:=uT (λer=>zJj h6.tk.tk (show(S.lts++_).length<=1000000 by rw[qM];have:=HS.s.len;omega) c.n q er A6 n6 c6 (fQ c (fO c S c.m q)).1 w6.heap.size hdl6 (by omega) (Reads.of_own hr6) (qA _) (WalkArith.wf_i64 (by omega)) (WalkArith.wf_i64 (by omega)) (by have:=h6.tk.sn;omega));clear e0 e1 e2 e3 e4 w0 hcl ho6 hb6 hnl hll hr6 hdl6;have w0:=h6.tk.tk.w0;have h0:=h6.tk.tk.h0;rw[HN.s]at h0;clear h6;go_wp2_with fail;refine(HSE.s _).mono ?_;rintro _ w7 hp;obtain⟨rfl,t4,ow7,h4⟩:=H6.s.send hp;have H4:=uT h4;clear hp h4 w0 h0 HSE H6 HAK;go_wp2_with fail;go_roundw
         case rel=>exact⟨q+1,t4,ow7,by omega,by go_num,by rw[zMe,<-jK];exact H4⟩
         case measure=>simp[intOf];omega
        ·obtain rfl:q=c.n:=by omega
         have HKT:=uT HG.s.tk.tk.tk;obtain⟨_,_,_,_,_,_,_,_,_,_,_⟩:=dM HKT.s;obtain⟨_,_,_,_,_,_,_,_,_,_,_⟩:=bS HKT.s;go_wp2_with fail;change bodyPost _ _ _ _ _ (wrT wr tb t);have k9:=zFu HKT.s rfl t;have HO9:=uT (zDr wr tb t);generalize wrT wr tb t=w9 at k9 HO9⊢;refine bodyPost_ret (v:=t.val) (zLu k9) rfl (HG.s.fin HO9.s)
end
def StepR(w:World)(c:Cfg)(y:fD)(K base:Nat)(ow:Nat->Tag)(r:zCl×WS)(e:Ending)(w':World):Prop:=
 ∃t:Tol,e= .returned t.val/\t.d=r.1/\TolOwn t w' w.heap.size/\∃ow',RW w' c y r.2 K base ow'/\Kept w w' ow ow'/\TolNo t ow'
section
variable {w W:World}{c:Cfg}{y:fD}{S:WS}{K base:Nat}{ow:Nat->Tag}
theorem RW.l5(h:RW W c y S K base ow):W.cell? ⟨y.hb,5,none⟩=some (.slice (some ⟨y.rb,0,none⟩) c.n y.rc):=by obtain⟨v,h⟩:=h.land;exact h.cell 5
theorem RW.l6(h:RW W c y S K base ow):W.cell? ⟨y.hb,6,none⟩=some (.slice (some ⟨y.ab,0,none⟩) c.n y.ac):=by obtain⟨v,h⟩:=h.land;exact h.cell 6
theorem RW.l7(h:RW W c y S K base ow):W.cell? ⟨y.hb,7,none⟩=some (.slice (some ⟨y.gb,0,none⟩) c.n y.gc):=by obtain⟨v,h⟩:=h.land;exact h.cell 7
theorem RW.l9(h:RW W c y S K base ow):W.cell? ⟨y.hb,9,none⟩=some (.slice (some ⟨y.kb,0,none⟩) c.m y.kc):=by obtain⟨v,h⟩:=h.land;exact h.cell 9
theorem RW.cfgs(h:RW W c y S K base ow):W.cell? ⟨y.hb,0,none⟩=some (.int .i64 c.br)/\W.cell? ⟨y.hb,1,none⟩=some (.slice c.la.A c.la.n c.la.c)/\W.cell? ⟨y.hb,2,none⟩=some (.int .i64 c.tk)/\W.cell? ⟨y.hb,3,none⟩=some (.slice c.mi.A c.mi.n c.mi.c)/\W.cell? ⟨y.hb,4,none⟩=some (.int .i64 c.cap):=by obtain⟨v,h⟩:=h.land;exact⟨h.cell 0,h.cell 1,h.cell 2,h.cell 3,h.cell 4⟩
theorem RW.rackAt(h:RW W c y S K base ow){i:Nat}(hi:i<c.n):W.cell? ⟨y.rb,i,none⟩=some (.slice (some ⟨y.r i,0,none⟩) c.m c.m):=by obtain⟨⟨cs,h1,h2⟩,_⟩:=(show RCon W c y (λk=>ow k= .con)from h.pc .con);exact(h1.cell i).trans (h2 i hi)
theorem RW.askAt(h:RW W c y S K base ow){i:Nat}(hi:i<c.n):W.cell? ⟨y.ab,i,none⟩=some (.slice (some ⟨y.a i,0,none⟩) c.m c.m):=by obtain⟨_,⟨cs,h1,h2⟩,_⟩:=(show RCon W c y (λk=>ow k= .con)from h.pc .con);exact(h1.cell i).trans (h2 i hi)
theorem RW.gnAt(h:RW W c y S K base ow){i:Nat}(hi:i<c.n):W.cell? ⟨y.gb,i,none⟩=some (.slice (some ⟨y.g i,0,none⟩) c.m c.m):=by obtain⟨_,_,⟨cs,h1,h2⟩,_⟩:=(show RCon W c y (λk=>ow k= .con)from h.pc .con);exact(h1.cell i).trans (h2 i hi)
theorem RW.bkAt(h:RW W c y S K base ow){j:Nat}(hj:j<c.m):W.cell? ⟨y.kb,j,none⟩=some (.pointer (some ⟨y.bg j,0,none⟩)):=by obtain⟨_,_,_,⟨cs,h1,h2⟩,_⟩:=(show RCon W c y (λk=>ow k= .con)from h.pc .con);exact(h1.cell j).trans (h2 j hj)
theorem RW.asksOk(h:RW W c y S K base ow){i:Nat}(hi:i<c.n)(hl:(S.ask i).length=c.m):IRw.ok ⟨some ⟨y.a i,0,none⟩,c.m,c.m,S.ask i⟩ W W.heap.size:=by have hm3:=(bK h.may).2.2.2.1;exact⟨hl,qA _,by unfold maxLen;dsimp only;omega,IRow.reads (show NumRow W base (y.a i) (S.ask i) (λk=>ow k= .ask i)from h.pc (.ask i) hi).row hl⟩
theorem RW.congrSh(h:RW W c y S K base ow)(sh':Nat->Nat->Shf)(hs:∀i k,i<c.n->k<c.m->sh' i k=S.sh i k):RW W c y {S with sh:=sh'} K base ow:=
 h.congr hs rfl rfl rfl (λ_ _=>rfl) rfl rfl rfl
theorem RW.aged(h:RW W c y (S.tkTo c.m c.n 0) K base ow):RW W c y S.aged K base ow:=
 h.congrSh (λi k=>((S.sh i k).does zEe).1) λi k hi hk=>(if_pos (Or.inl ⟨hi,hk⟩)).symm
end
theorem wt_lands:wt0 64:=⟨by decide,by decide,by decide,by decide⟩
def BytOff(l:List Int)(base:Nat)(W:World)(ow:Nat->Tag)(v:Value):Prop:=∃A n cc B,v= .slice A n cc/\l.length=n/\W.ownsRow B 5 1 (.slice A n cc) n (l.map (.int .u8))/\base<=B/\∀k,(Value.slice A n cc).ownBlock=some k->ow k= .off
section
variable {w W:World}{c:Cfg}{y:fD}{S:WS}{K base tb wb:Nat}{ow ow1:Nat->Tag}{t:Tol}{l:List PoD}{rep:List Int}
theorem TickG.claim{W':World}{z:List Int}{v:Value}(h:TickG (RT c y K base) base w S ow tb wb 64 y.hb l rep t W ow1)(hb:uR W W')(hv:W'.ownsRow W.heap.size 5 1 v z.length (z.map (.int .u8))):∃ow',TickG (RT c y K base) base w S ow tb wb 64 y.hb l rep t W' ow'/\BytOff z base W' ow' v/\Kept W W' ow1 ow':=by obtain⟨ow',h1,h2,h3⟩:=RW.claim (show RW W c y (S.posts l) K base ow1 from h.tk.pw) hb hv;obtain⟨A,cc,rfl,_⟩:=bE hv;exact⟨ow',⟨h.tk.turn h1 h2,h.d⟩,⟨A,_,cc,W.heap.size,rfl,rfl,hv,RW.bw (show RW W c y (S.posts l) K base ow1 from h.tk.pw),h3⟩,h2⟩
end
section
variable {w w1 W W':World}{c:Cfg}{y:fD}{S:WS}{K base tb wb gb qb:Nat}{ow ow1:Nat->Tag}{t:Tol}{l:List PoD}{rep:List Int}{L:List RwI}{cs:Array Value}
theorem GivG.claim{z:List Int}{v:Value}(h:GivG (RT c y K base) base w S ow tb wb 64 y.hb l rep gb L t W ow1)(hb:uR W W')(hv:W'.ownsRow W.heap.size 5 1 v z.length (z.map (.int .u8))):∃ow',GivG (RT c y K base) base w S ow tb wb 64 y.hb l rep gb L t W' ow'/\BytOff z base W' ow' v:=by obtain⟨ow',h1,h2,h3⟩:=RW.claim (show RW W c y (S.posts l) K base ow1 from h.tk.tk.pw) hb hv;obtain⟨A,cc,rfl,_⟩:=bE hv;exact⟨ow',h.turn h1 h2 rfl,⟨A,_,cc,W.heap.size,rfl,rfl,hv,RW.bw (show RW W c y (S.posts l) K base ow1 from h.tk.tk.pw),h3⟩⟩
theorem GivG.finR(h:GivG (RT c y K base) base w1 (S.aged.rounds c c.m) ow tb wb 64 y.hb (cA c S.aged c.n++dW c S c.n) (dJ c S c.m) gb L t W ow1)(hb1:uR w w1)(hq:Blk w1 qb 57 cs)(hqn:ow qb= .no)(hqb:qb=w.heap.size+1)(hw:base<=w.heap.size)(ho:Only (λk=>k=qb) W W'):StepR w c y K base ow (zGs c S) (.returned t.val) W':=by
 have hT:=h.tk.tk;have hn1:ow1 qb= .no:=(hT.kept.old qb hq.lt).trans hqn;have hs1:=hb1.size;have hql:=hq.lt;have hbw:=RW.bw (show RW W c y _ K base ow1 from hT.pw);have hp:=RW.far (show RW W c y _ K base ow1 from hT.pw) ho (λk _ e=>by rw[e];exact hn1) (λk hk e=>by omega);have hn:∀{e:TypeId} {size n:Nat} {v:Value} {xs:List Value},W.ownsRow w1.heap.size e size v n xs->W'.ownsRow w.heap.size e size v n xs:=λhv=>dU (bL hv ho λk hk e=>by have:=(hv.lt k hk).1;omega) hs1
 exact⟨t,rfl,h.tk.d,⟨hn hT.own.so,hn hT.own.fo,hn hT.own.ro⟩,ow1,hp,⟨((Kept.calm hb1).trans hT.kept).only.trans ho (λx hx hd=>by omega),((Kept.calm hb1).trans hT.kept).old⟩,hT.no⟩
end
section
variable {w:World}{c:Cfg}{y:fD}{S:WS}{K base:Nat}{ow:Nat->Tag}
set_option maxRecDepth 1000000 in
theorem yIb(h:RW w c y S K base ow)(N:Nat)(hS:S.ok c N)(hN:N<=10000)(hK:K<=10000)(hls:∀id,S.lost id=true->id<S.lts.length):Calls prog 43 #[.pointer (some ⟨y.hb,0,none⟩)] w (StepR w c y K base ow (zGs c S)):=by
 obtain⟨⟨hn,hn1,hn8⟩,hln,htk,hm3,hcap,hla,hmi⟩:=bK h.may;obtain⟨wb,hwb⟩:=kB w.heap.size;obtain⟨qb,hqb⟩:=kB (w.heap.size+1);obtain⟨tb,htb⟩:=kB (w.heap.size+1+1);obtain⟨w0,hw0⟩:=kB (w.alloc (.cells #[.pointer (some ⟨y.hb,0,none⟩)] 64));obtain⟨w1,hw1⟩:=kB (w0.alloc (.cells (bR 0 0).cells.toArray 57));obtain⟨wx,hwx⟩:=kB (w1.alloc (.cells (bR 0 0).cells.toArray 57));have s0:w0.heap.size=w.heap.size+1:=by rw[hw0];simp
 have s1:w1.heap.size=w.heap.size+1+1:=by rw[hw1,World.size_alloc,s0]
 have hb0:=uH hw0;have hb1:uR w w1:=by rw[hw1];exact hb0.alloc hb0.size _
 have hbx:=uH hwx;have kw:Blk wx wb 64 #[.pointer (some ⟨y.hb,0,none⟩)]:=by rw[hwx,hw1,hw0,hwb];exact((Blk.new w _ _).alloc _).alloc _
 have kq:Blk w1 qb 57 (bR 0 0).cells.toArray:=by rw[hw1,hqb,<-s0];exact Blk.new _ _ _
 have kt:Blk wx tb 57 (bR 0 0).cells.toArray:=by rw[hwx,htb,<-s1];exact Blk.new _ _ _
 have h1:=h.calm hb1;have hT:TkG (RT c y K base) base w1 (S.tkTo c.m 0 0) ow tb wb 64 y.hb (bR 0 0) wx ow:=by rw[zUf];exact⟨rt_like _ _ _ _,wt_lands,h1.calm hbx,Kept.calm hbx,h.fresh _ (by omega),h.fresh _ (by omega),h1.bw,by omega,kt,kw,zDn _ _ _ _,zEr _ _ _⟩
 obtain⟨HT,HQ,HB1,HS,HWX,HW1,HW0,HIX,HN,HBW⟩:=uQ hT (And.intro kq (h.fresh qb (by omega))) hb1 hS hwx hw1 hw0 (And.intro hwb (And.intro hqb htb)) hn h.bw;obtain⟨HLN,HCP,HLS⟩:=uJ hln hcap hls;clear hT hS hwx hw1 hw0 hb0 hb1 hbx kw kq kt hwb hqb htb hn hla hmi htk hln hcap h h1 hls s0 s1;obtain⟨iL,hiL,zL,hzL,hcL,hsL,hyL⟩:∃i,prog.info? 22=some i/\∃z,i.zero=some z/\z.cells.toList=[Value.slice none 0 0]/\i.size=1/\i.bytes=24:=zAb (by kernel_rfl);obtain⟨iI,hiI,hzI,hsI,hyI⟩:∃i,prog.info? 3=some i/\i.zero=some (.int .i64 0)/\i.size=1/\i.bytes=8:=gB (by kernel_rfl);have hmk:=λW=>dN (P:=prog) 87 22 iL _ underlying87 hiL hzL .i64 .i64 c.n c.n (qA _) (by rw[hyL];omega) (by omega) W
 rw[hsL,Nat.mul_one,zGy c.n zL.cells hcL]at hmk;have HMK:=uT hmk;clear hmk;go_enter func43,ntmps43;go_upto_region 2 with fail;rw[zAf,<-HW0.s,<-HW1.s,<-HWX.s,<-HIX.s.2.2,<-HIX.s.2.1,<-HIX.s.1];have v0:=HT.s.wk.cell 0;have h0:=(RW.cfgs (show RW wx c y (S.tkTo c.m 0 0) K base ow from HT.s.pw)).1;rw[HN.s]at h0;go_wp2_with fail
 go_loopw [6] (λi wr=>∃(a:Nat) (ow1:Nat->Tag),a<=c.n/\i= .int .i64 a/\uS (TkG (RT c y K base) base w1 (S.tkTo c.m a 0) ow tb wb 64 y.hb (bR 0 0) wr ow1)) (λi _=>c.n-(intOf i).toNat)
 case atStart=>exact⟨0,ow,qL _,rfl,HT⟩
 case round=>
  obtain⟨a,ow1,ha,rfl,HA⟩:=hrel;by_cases hlt:a<c.n
  ·have hlt':(a:Int)<(c.n:Int):=by omega
   clear v0 h0;have v0:=HA.s.wk.cell 0;have hp:RW wr c y _ K base _:=HA.s.pw;have l5:=hp.l5;have b5:=hp.rackAt hlt;clear hp;go_wp2_with fail
   go_loopw [42] (λi wr=>∃(b:Nat) (ow1:Nat->Tag),b<=c.m/\i= .int .i64 b/\uS (TkG (RT c y K base) base w1 (S.tkTo c.m a b) ow tb wb 64 y.hb (bR 0 0) wr ow1)) (λi _=>c.m-(intOf i).toNat)
   case atStart=>exact⟨0,ow1,qL _,rfl,HA⟩
   case round=>
    obtain⟨b,ow2,hb,rfl,HB⟩:=hrel;clear v0 l5 b5;by_cases hltb:b<c.m
    ·have hltb':(b:Int)<(c.m:Int):=by omega
     have v0:=HB.s.wk.cell 0;have hp:RW wr c y _ K base _:=HB.s.pw;have l5:=hp.l5;have b5:=hp.rackAt hlt;have HDO:=uT (zNf zEe a b hp hlt hltb N (by have:=HS.s.sh a b;show(if _ then _ else _:Shf).ok _;rw[if_neg (by omega)];exact this) (by omega) (qA K) (zYd zEe (by decide)));unfold zEe Ordr.val at HDO;dsimp only at HDO;clear hp;go_wp2_with fail;refine HDO.s.mono ?_;rintro _ w3 ⟨rfl,ow3,hp3,hk3⟩;have HC:=uT (HB.s.turn hp3 hk3);clear hp3 hk3 v0 l5 b5;go_wp2_with fail;go_roundw
     case rel=>exact⟨b+1,ow3,by omega,by go_num,by have e:=zVp S c.m a b;unfold zEe at e;rw[e];exact HC⟩
     case measure=>simp[intOf];omega
    ·obtain rfl:b=c.m:=by omega
     go_wp2_with fail;go_roundw
     case rel=>exact⟨a+1,ow2,by omega,by go_num,by rw[<-zZz];exact HB⟩
     case measure=>simp[intOf];omega
  ·obtain rfl:a=c.n:=by omega
   have HA1:=uT (show TkG (RT c y K base) base w1 S.aged ow tb wb 64 y.hb (bR 0 0) wr ow1 from HA.s.turn (RW.aged HA.s.pw) (Kept.refl _ _));clear HA HT v0 h0;go_wp2_with fail
   go_loopw [8] (λi wr=>∃(a:Nat) (t:Tol) (ow1:Nat->Tag),a<=c.n/\i= .int .i64 a/\uS (TickG (RT c y K base) base w1 S.aged ow tb wb 64 y.hb (cA c S.aged a) [] t wr ow1)) (λi _=>c.n-(intOf i).toNat)
   case atStart=>exact⟨0,bR 0 0,ow1,qL _,rfl,uT ⟨by rw[show cA c S.aged 0=[]from rfl,zUe];exact HA1.s,rfl⟩⟩
   case round=>
    obtain⟨a,t,ow2,ha,rfl,HB⟩:=hrel;have HHL:=uT (zEi c S.aged hn8 a ha);by_cases hlt:a<c.n
    ·have hlt':(a:Int)<(c.n:Int):=by omega
     have hp:RW wr c y _ K base _:=HB.s.tk.pw;obtain⟨c0,c1,c2,c3,c4⟩:=(hp).cfgs;have e0:=λm:Ext wr=>m.cell c0
     have e1:=λm:Ext wr=>m.cell c1
     have e2:=λm:Ext wr=>m.cell c2
     have e3:=λm:Ext wr=>m.cell c3
     have e4:=λm:Ext wr=>m.cell c4
     clear c0 c1 c2 c3 c4;have e5:=λm:Ext wr=>m.cell (HB.s.tk.wk.cell 0)
     have e6:=λm:Ext wr=>m.cell hp.l6
     have e7:=λm:Ext wr=>m.cell (hp.askAt hlt)
     have hask:=hp.asksOk hlt (HS.s.ask a).1;have HAK:=uT (λW (hW:uR wr W)=>zZg c ⟨some ⟨y.a a,0,none⟩,c.m,c.m,S.ask a⟩ W.heap.size W ((hp.calm hW).cfg.more (hp.calm hW).bw) ((hask.below hW).more hW.size) (qA _));unfold Cfg.val zAp at HAK;dsimp only at HAK;clear hask hp;go_upto_region 15 with fail;refine gT [0,1,2,3,4,5,6,7,8,9,10] [11,12] [13,14,15,16] (by kernel_rfl) (by kernel_rfl) (by intro c a d v w h;cases d<;>exact h) ?_;simp only[bB,qJ,qO,qD,qE]
     repeat(go_big_quiet_step (fail))
     refine qF ?_;clear e0 e1 e2 e3 e4 e5 e6 e7;have hd0:uR wr wr.drew:=(qC _ _).drew;generalize wr.drew=wd at hd0⊢;simp only[fJ];go_wp2_with fail;refine(HAK.s wd hd0).mono ?_;rintro _ w5 ⟨v5,rfl,ho5,hb5⟩;obtain⟨ow3,hC,⟨A,n,cc,B,rfl,hdl,hr,hBB,hoff⟩,_⟩:=(HB.s.calm hd0).claim hb5 ho5;have hd5:=hd0.trans (hb5.mono hd0.size);have hnl:=zFp c (S.ask a) hm3.2;obtain⟨HSE,HC⟩:=uI (zTm hC.tk (show(S.lts++_).length<=1000000 by rw[qM];have:=HS.s.len;have:=HHL.s;omega) (λid hid=>by show id<((S.lts++_).length:Int);rw[qM];have:=HLS.s id hid;omega) a c.n A n cc (fQ c (S.ask a)).1 B hdl (by omega) hr hBB hoff (by have:=hC.sn;have:=HHL.s;omega)) hC;clear hb5 ho5 hdl hr hBB hoff hnl hC hd0 HAK;go_wp2_with fail;refine⟨⟨⟨_,hd5⟩,rfl⟩,?_⟩;go_wp2_with fail;refine⟨⟨⟨_,hd5⟩,rfl⟩,?_⟩
     repeat(go_big_quiet_step (fail))
     refine qF ?_;clear hd5;go_wp2_with fail;refine HSE.s.mono ?_;rintro _ w3 hp;obtain⟨rfl,t3,ow4,h3,_⟩:=HC.s.send hp;have H3:=uT h3;clear hp h3 HSE HC;go_wp2_with fail
     go_loopw [11] (λi wr=>∃(b:Nat) (t:Tol) (ow1:Nat->Tag),b<=c.n/\i= .int .i64 b/\uS (TickG (RT c y K base) base w1 S.aged ow tb wb 64 y.hb (cA c S.aged a++(⟨a,c.n,(fQ c (S.ask a)).1⟩::zAv c S.aged a b)) [] t wr ow1)) (λi _=>c.n-(intOf i).toNat)
     case atStart=>exact⟨0,t3,ow4,qL _,rfl,H3⟩
     case round=>
      obtain⟨b,t,ow5,hb,rfl,HB⟩:=hrel;have HRL:=uT (zZp c S.aged a b);by_cases hltb:b<c.n
      ·have hltb':(b:Int)<(c.n:Int):=by omega
       have hsu:=zOz c S.aged a b;by_cases hba:b=a
       ·subst hba;rw[if_pos rfl]at hsu;have HSU:=uT hsu;clear hsu;go_wp2_with fail;go_roundw
        case rel=>exact⟨b+1,t,ow5,by omega,by go_num,by rw[HSU.s];exact HB⟩
        case measure=>simp[intOf];omega
       ·rw[if_neg hba]at hsu;have HSU:=uT hsu;clear hsu;have hne:((b:Int)==(a:Int))=false:=by simp;omega
        have hp:RW wr c y _ K base _:=HB.s.tk.pw;obtain⟨c0,c1,c2,c3,c4⟩:=(hp).cfgs;have e0:=λm:Ext wr=>m.cell c0
        have e1:=λm:Ext wr=>m.cell c1
        have e2:=λm:Ext wr=>m.cell c2
        have e3:=λm:Ext wr=>m.cell c3
        have e4:=λm:Ext wr=>m.cell c4
        clear c0 c1 c2 c3 c4;have e5:=λm:Ext wr=>m.cell (HB.s.tk.wk.cell 0)
        have HLI:=uT (λW (hW:uR wr W)=>zVc (hp.calm hW) a hlt (HS.s.st a));have hab:cG c a=true/\cG c b=true:=by unfold cG;rw[HN.s];constructor<;>simp<;>omega
        have HRU:=uT (λW (hW:uR wr W) (T:TabR) (hT:TabOk W W.heap.size T)=>zMg c a b T W.heap.size W ((hp.calm hW).cfg.more (hp.calm hW).bw) hT (qA _));unfold Cfg.val zCa at HRU;clear hp hab;go_upto_region 21 with fail;refine gT [0,1,2,3,4,5,6,7] [8,9,10] [11,12,13,14] (by kernel_rfl) (by kernel_rfl) (by intro c a d v w h;cases d<;>exact h) ?_;simp only[bB,qJ,qO,qD,qE]
        repeat(go_big_quiet_step (fail))
        refine qF ?_;clear e0 e1 e2 e3 e4 e5;have hd0:uR wr wr.drew:=(qC _ _).drew;generalize wr.drew=wd at hd0⊢;simp only[fJ];go_wp2_with fail;refine(HLI.s wd hd0).mono ?_;rintro _ w5 ⟨T,rfl,hTe,hTo,hb5⟩;have hTe:T.es=S.st a:=hTe;have hd5:=hd0.trans (hb5.mono hd0.size);have HRW:=uT (HRU.s w5 hd5 T ⟨hTo.rd,by have:=congrArg List.length hTe;rw[show T.es=T.rs.map EnR.es from rfl,qQ,(HS.s.st a).1]at this;have:=HLN.s;unfold maxLen;omega,λr hr=>by have hm:r.es∈S.st a:=(by rw[<-hTe];exact List.mem_map_of_mem hr);have:=(HS.s.st a).2 _ hm;unfold bU at this;rw[qT,decide_eq_true_eq]at this;unfold maxLen;omega⟩);rw[hTe]at HRW;unfold TabR.val at HRW⊢;clear hTe hTo HLI HRU;go_wp2_with fail;refine⟨⟨⟨_,hd5⟩,rfl⟩,?_⟩;go_wp2_with fail;refine HRW.s.mono ?_;rintro _ w6 ⟨v6,rfl,ho6,hb6⟩;obtain⟨ow6,hC,⟨A2,n2,cc2,B2,rfl,hdl2,hr2,hBB2,hoff2⟩,_⟩:=(HB.s.calm hd5).claim hb6 ho6;have hd6:=hd5.trans (hb6.mono hd5.size);have hnl:=zPv c a b (S.st a) HLN.s;have hll:(cA c S.aged a++(⟨a,c.n,(fQ c (S.ask a)).1⟩::zAv c S.aged a b)).length<=100:=by rw[qM,jG];have:=HHL.s;have:=HRL.s;omega
        obtain⟨HSE,HC⟩:=uI (zTm hC.tk (show(S.lts++_).length<=1000000 by rw[qM];have:=HS.s.len;omega) (λid hid=>by show id<((S.lts++_).length:Int);rw[qM];have:=HLS.s id hid;omega) a b A2 n2 cc2 (bT c a b (S.st a)).1 B2 hdl2 (by omega) hr2 hBB2 hoff2 (by have:=hC.sn;omega)) hC;clear hb5 hb6 ho6 hdl2 hr2 hBB2 hoff2 hnl hll hC hd0 hd5 HRW;go_wp2_with fail;refine⟨⟨⟨_,hd6⟩,rfl⟩,?_⟩;go_wp2_with fail;refine⟨⟨⟨_,hd6⟩,rfl⟩,?_⟩
        repeat(go_big_quiet_step (fail))
        refine qF ?_;clear hd6;go_wp2_with fail;refine HSE.s.mono ?_;rintro _ w7 hp;obtain⟨rfl,t4,ow7,h4,_⟩:=HC.s.send hp;have H4:=uT h4;clear hp h4 HSE HC;go_wp2_with fail;go_roundw
        case rel=>exact⟨b+1,t4,ow7,by omega,by go_num,by rw[HSU.s,<-List.cons_append,<-jK];exact H4⟩
        case measure=>simp[intOf];omega
      ·obtain rfl:b=c.n:=by omega
       go_wp2_with fail;go_roundw
       case rel=>exact⟨a+1,t,ow5,by omega,by go_num,by rw[zNk];exact HB⟩
       case measure=>simp[intOf];omega
    ·obtain rfl:a=c.n:=by omega
     clear HHL;have hk8:=HMK.s wr;obtain⟨w4,hw4⟩:=kB (wr.alloc (.cells (zAy c.n) 22));have hb4:=uH hw4;obtain⟨gb,hgb⟩:=kB wr.heap.size;have k4:Blk w4 gb 22 (zAy c.n):=by rw[hw4,hgb];exact Blk.new _ _ _
     have hG4:GivG (RT c y K base) base w1 (S.aged.rounds c 0) ow tb wb 64 y.hb (cA c S.aged c.n) (dJ c S 0) gb (List.replicate c.n RwI.nil) t w4 ow2:=by
      have h4:=HB.s.calm hb4;have hsz:=HB.s.tk.kept.only.size;rw[zPt];refine⟨h4,GivA.new k4 (by omega),HB.s.tk.like.fresh HB.s.tk.pw _ (by omega),λr hr b hb=> ?_,λr hr k hk=> ?_⟩
      ·rw[(uB.1 hr).2]at hb;cases hb
      ·rw[(uB.1 hr).2]at hk;cases hk
     have HG4:=uT hG4;have HZ4:=uT (show(List.replicate c.n RwI.nil).map RwI.zs=(List.range c.n).map (fO c S 0)by rw[List.map_replicate,show fO c S 0=λ_=>[]from rfl,List.map_const',List.length_range];rfl)
     rw[<-hw4,<-hgb]at hk8;clear hw4 hb4 k4 hgb hG4 HB;go_upto_region 24 with fail;clear hk8;have v0:=HG4.s.tk.tk.wk.cell 0;have l9:=(show RW w4 c y _ K base ow2 from HG4.s.tk.tk.pw).l9;go_wp2_with fail
     go_loopw [115] (λi wr=>∃(k:Nat) (L:List RwI) (t:Tol) (ow1:Nat->Tag),k<=c.m/\i= .int .i64 k/\uS (GivG (RT c y K base) base w1 (S.aged.rounds c k) ow tb wb 64 y.hb (cA c S.aged c.n) (dJ c S k) gb L t wr ow1)/\uS (L.map RwI.zs=(List.range c.n).map (fO c S k))) (λi _=>c.m-(intOf i).toNat)
     case atStart=>exact⟨0,_,t,ow2,qL _,rfl,HG4,HZ4⟩
     case round=>
      obtain⟨k,L,t,ow2,hk,rfl,HG,HZ⟩:=hrel;clear v0 l9;by_cases hlt:k<c.m
      ·have hlt':(k:Int)<(c.m:Int):=by omega
       have hp:RW wr c y _ K base _:=HG.s.tk.tk.pw;have b0:=hp.bkAt hlt;have hbk:((S.aged.rounds c k).posts (cA c S.aged c.n)).bk k=S.bk k:=if_neg (Nat.lt_irrefl k);have hokb:=HS.s.bk k;have HRO:=uT (yFg hp k hlt N (by rw[hbk];exact hokb));rw[hbk]at HRO;obtain⟨HRS,HPS,HGL,HGR⟩:=uK (rounds_succ S.aged c k) (zKx c S k) (show(zIp c S k).length=c.n from(zQj hokb HCP.s).lg) (λwho=>zOb c S k who);have HR1:=uT (show zBt c S k= -1\/0<=zBt c S k by
        unfold zBt fR;dsimp only
        split
        ·exact .inr hokb.res.1
        ·exact .inl rfl)
       obtain⟨gl,hgl⟩:=kB (zIp c S k);obtain⟨rp,hrp⟩:=kB (zBt c S k);rw[show(fR c.cap c.tk (S.bk k)).2.1=gl from hgl.symm,show(fR c.cap c.tk (S.bk k)).2.2=rp from hrp.symm]at HRO;rw[<-hgl]at HGL HGR;rw[<-hrp]at HPS HR1;clear hbk hokb hgl hrp hp;go_wp2_with fail;refine HRO.s.mono ?_;rintro _ w5 ⟨A,cc,ow3,rfl,hr5,hp5,hk5,hn5⟩;have hG5:GivG (RT c y K base) base w1 (S.aged.rounds c (k+1)) ow tb wb 64 y.hb (cA c S.aged c.n) (dJ c S k) gb L t w5 ow3:=HG.s.turn (by rw[HRS.s];exact hp5) hk5 (by rw[HRS.s]);have hgp5:Gap L (.slice A c.n cc):=Gap.of_lt HG.s.giv (qA _) (λq hq=>(hr5.lt q hq).1);have HRB:=uT (show∀q,(Value.slice t.rA t.rn t.rc).ownBlock=some q->q<wr.heap.size from λq hq=>(HG.s.tk.tk.own.ro.lt q hq).2);obtain⟨B5,hB5⟩:=kB wr.heap.size;rw[<-hB5]at hr5 HRB;obtain⟨HG5,HR5,HGP5⟩:=uJ hG5 hr5 hgp5;clear hr5 hp5 hk5 hn5 hG5 hgp5 b0 HG HRO hB5;go_upto_if 125 with fail
       go_cut [] (λW=>uS (∃t ow4,GivG (RT c y K base) base w1 (S.aged.rounds c (k+1)) ow tb wb 64 y.hb (cA c S.aged c.n) (dJ c S (k+1)) gb L t W ow4/\W.ownsRow B5 3 1 (.slice A c.n cc) c.n (gl.map (.int .i64))))
       case first=>
        by_cases hrp0:0<=rp
        ·have hps:=HPS.s;have hne:(rp== -1)=false:=by simp;omega
         rw[if_pos hrp0]at hps;have HPE:=uT hps;have hT5:=HG5.s.tk.tk;have t10:w5.cell? ⟨tb,10,none⟩=some (.slice t.rA t.rn t.rc):=hT5.tk.cell 10;have hown:=hT5.own.ro;have hrn:t.rn<=3:=by
          have h1:=hT5.own.ok.rl;rw[HG5.s.tk.d]at h1;dsimp only at h1;have h2:(dJ c S k).length<=k:=by unfold dJ;refine qN (List.length_filterMap_le _ _) ?_;rw[List.length_range];exact qA _
          omega
         obtain⟨HO,HMQ⟩:=uI hown (show(t.rn+1)*8<=140737488355328 by omega);have hsz:=hT5.kept.only.size;have hrep:t.d.report=dJ c S k:=by rw[HG5.s.tk.d]
         have HREP:=uT hrep;clear hps hown hT5 hrep;go_wp2_with(first
          |(at_builtin;(refine bF w5 rfl (.tmp 127) (.tmp 129) _ rfl w1.heap.size 3 iI _ 1 8 underlying22 hiI hzI hsI hyI rfl (by omega) (by omega) _ t.rn _ HO.s rfl _ 1 _ rfl rfl rfl (by simp[Value.oneCell']) HMQ.s hsz ?_);intro g4 cap4 w7 hg4 hown4 hbel4 hgr4 hat4
            have o1:Only (λk=>(Value.slice t.rA t.rn t.rc).ownBlock=some k) w5 w7:=(Only.refl _ w5).grown hgr4 (λg hg _=>hg);have f10:w7.frozen? ⟨tb,10,none⟩=false:=(HG5.s.tk.tk.tk.only o1 (bC HG5.s.tk.tk.own.ro HG5.s.tk.tk.tk (by decide))).frozen 10;have c10:w7.cell? ⟨tb,10,none⟩=some (.slice t.rA t.rn t.rc):=(HG5.s.tk.tk.tk.only o1 (bC HG5.s.tk.tk.own.ro HG5.s.tk.tk.tk (by decide))).cell 10;obtain⟨h8,o8⟩:=HG5.s.report (z:=rp) hgr4 (by rw[HREP.s]at hown4;exact hown4) (by
             rcases hat4 with e|e
             ·exact .inl e
             ·exact .inr (by omega))
            have hr8:=bL HR5.s o8 (λq hq e=>by
             have h1:=(HR5.s.lt q hq).1;rcases e with rfl|e
             ·exact bC HR5.s HG5.s.tk.tk.tk (by decide) hq
             ·have:=HRB.s q e;omega)
            have H8:=uT (show uS (∃t' ow4,GivG (RT c y K base) base w1 (S.aged.rounds c (k+1)) ow tb wb 64 y.hb (cA c S.aged c.n) (dJ c S (k+1)) gb L t' (w7.setCell ⟨tb,10,none⟩ (.slice (some ⟨g4,0,none⟩) (t.rn+1) cap4)) ow4/\(w7.setCell ⟨tb,10,none⟩ (.slice (some ⟨g4,0,none⟩) (t.rn+1) cap4)).ownsRow B5 3 1 (.slice A c.n cc) c.n (gl.map (.int .i64)))from uT ⟨_,_,by rw[HPE.s];exact h8,hr8⟩);clear h8 o8 hr8 o1 hg4 hown4 hbel4 hgr4 hat4))
         go_meet;exact H8.s
        ·have hps:=HPS.s;rw[if_neg hrp0]at hps;have HPE:=uT hps;have hne:(rp== -1)=true:=by have:=HR1.s;simp;omega
         clear hps;go_wp2_with fail;go_meet;exact uT ⟨t,ow3,by rw[HPE.s];exact HG5.s,HR5.s⟩
       case rest=>
        obtain⟨t,ow4,hG,hR⟩:=hcut.s;obtain⟨HG0,HR0,HZ0⟩:=uJ hG hR (show L.map RwI.zs=(List.range c.n).map λi=>if i<0 then fO c S (k+1) i else fO c S k i from HZ.s);clear hG hR HG5 HR5 HRB HZ;go_wp2_with fail
        go_loopw [19] (λi W=>∃(q:Nat) (L:List RwI) (ow1:Nat->Tag),q<=c.n/\i= .int .i64 q/\uS (GivG (RT c y K base) base w1 (S.aged.rounds c (k+1)) ow tb wb 64 y.hb (cA c S.aged c.n) (dJ c S (k+1)) gb L t W ow1)/\uS (L.map RwI.zs=(List.range c.n).map λi=>if i<q then fO c S (k+1) i else fO c S k i)/\uS (W.ownsRow B5 3 1 (.slice A c.n cc) c.n (gl.map (.int .i64)))/\uS (Gap L (.slice A c.n cc))) (λi _=>c.n-(intOf i).toNat)
        case atStart=>exact⟨0,L,ow4,qL _,rfl,HG0,HZ0,HR0,HGP5⟩
        case round=>
         obtain⟨q,L,ow5,hq,rfl,HG,HZ,HR,HGP⟩:=hrel;by_cases hltq:q<c.n
         ·have hltq':(q:Int)<(c.n:Int):=by omega
          obtain⟨bl,ol,z,hA,_,hz,hcz⟩:=dQ (Reads.of_own HR.s) hltq;have hzl:gl.getD q 0=z:=by rw[qG,hz];rfl
          obtain⟨r,hri,hrz,hstep⟩:=zYj HZ.s hltq (by have:=HGR.s q;rw[hzl]at this;exact this);have hrr:=HG.s.giv.rows r (qB hri);have hcl:=HG.s.giv.cell hri;have hrl:r.zs.length<=3:=by rw[hrz,zVl];omega
          obtain⟨rA,rc,hrv,_⟩:=bE hrr;rw[hrv]at hcl;obtain⟨rn,hrn⟩:=kB r.zs.length;rw[<-hrn]at hcl hrl hrr;rw[hrv,<-hrn]at hrr;obtain⟨HRI,HRV,HRN,HST⟩:=uK hri hrv hrn hstep;have hrl':rn<=3:=hrl;subst hA;have e1:=λm:Ext wr=>m.cell hcl
          have e2:=λm:Ext wr=>m.cell hcz
          have HRR:=uT hrr;clear hri hrv hrn hstep hzl hz hrz hrr hcl hcz hrl;go_upto_region 33 with fail;refine bO [0,1] [2,3,4,5,6,7,8,9] [] [10] 11 [12,13] (by kernel_rfl) (by kernel_rfl) (by intro c a d v w h;cases d<;>exact h) ?_;simp only[bB,qJ,qO,qD,qE]
          repeat(go_big_quiet_step (fail))
          refine qF ?_
          repeat(go_big_quiet_step (fail))
          refine qF (qF ?_);clear e1 e2;rintro W1 ⟨nq,hW⟩;have hWB:uR wr W1:=hW▸nq.h;clear hW;have h1:=HG.s.calm hWB;have hr1:=bI HR.s hWB;have hrr1:=bI HRR.s hWB;obtain⟨HO,HMQ⟩:=uI hrr1 (show(rn+1)*8<=140737488355328 by omega);have hsz:=h1.tk.tk.kept.only.size;obtain⟨H1,HR1⟩:=uI h1 hr1;simp only[fJ];go_wp2_with fail;refine⟨⟨⟨_,hWB.alloc hWB.size _⟩,rfl⟩,?_⟩;clear h1 hr1 hrr1 hWB;go_wp2_with(first
           |(at_builtin;(refine bF W1 rfl (.tmp 142) (.tmp 147) _ rfl w1.heap.size 3 iI _ 1 8 underlying22 hiI hzI hsI hyI rfl (by omega) (by omega) _ rn _ HO.s rfl _ 1 _ rfl rfl rfl (by simp[Value.oneCell']) HMQ.s hsz ?_);intro g4 cap4 w7 hg4 hown4 hbel4 hgr4 hat4
             have hrvn:r.v= .slice rA rn rc:=by rw[HRV.s,HRN.s]
             rw[<-hrvn]at hgr4 hat4;have o1:Only (λk=>r.v.ownBlock=some k) W1 w7:=(Only.refl _ W1).grown hgr4 (λg hg _=>hg);have hrr2:=H1.s.giv.rows r (qB HRI.s);have fgb:w7.frozen? ⟨gb,q,none⟩=false:=(H1.s.giv.blk.only o1 (bC hrr2 H1.s.giv.blk (by decide))).frozen q;have cgb:w7.cell? ⟨gb,q,none⟩=some (.slice rA rn rc):=by have h1:=(Blk.cell (H1.s.giv.blk.only o1 (bC hrr2 H1.s.giv.blk (by decide))) q).trans ((H1.s.giv.blk.cell q).symm.trans (H1.s.giv.cell HRI.s));rw[hrvn]at h1;exact h1
             have hat5:(RwI.v ⟨.slice (some ⟨g4,0,none⟩) (rn+1) cap4,r.zs++[z]⟩).ownBlock=r.v.ownBlock\/∃k,(RwI.v ⟨.slice (some ⟨g4,0,none⟩) (rn+1) cap4,r.zs++[z]⟩).ownBlock=some k/\W1.heap.size<=k:=by
              rcases hat4 with e|e
              ·exact .inl (by rw[<-e];rfl)
              ·exact .inr ⟨g4,rfl,by omega⟩
             obtain⟨h8,o8⟩:=H1.s.push (r':=⟨.slice (some ⟨g4,0,none⟩) (rn+1) cap4,r.zs++[z]⟩) HRI.s hgr4 (by dsimp only;rw[qM,<-HRN.s,jA];exact hown4) hat5
             have hr8:=bL HR1.s o8 (λx hx e=>by
              rcases e with rfl|e
              ·exact bC HR1.s H1.s.giv.blk (by decide) hx
              ·exact HGP.s r (qB HRI.s) x e hx)
             obtain⟨H8,HR8,HGP8,HZ8⟩:=uK h8 hr8 (HGP.s.set_ HRI.s hat5 λx hx=>(HR1.s.lt x hx).2) (HST.s (.slice (some ⟨g4,0,none⟩) (rn+1) cap4));clear h8 o8 hr8 o1 hg4 hown4 hbel4 hgr4 hat4 hat5 hrr2 hrvn))
          go_roundw
          case rel=>exact⟨q+1,_,ow5,by omega,by go_num,H8,HZ8,HR8,HGP8⟩
          case measure=>simp[intOf];omega
         ·obtain rfl:q=c.n:=by omega
          have HZF:=uT (zXl HZ.s);go_wp2_with fail;go_roundw
          case rel=>exact⟨k+1,L,t,ow5,by omega,by go_num,HG,HZF⟩
          case measure=>simp[intOf];omega
      ·obtain rfl:k=c.m:=by omega
       have HG0:=uT (show GivG (RT c y K base) base w1 (S.aged.rounds c c.m) ow tb wb 64 y.hb (cA c S.aged c.n++dW c S 0) (dJ c S c.m) gb L t wr ow2 by rw[show dW c S 0=[]from rfl,jR];exact HG.s);clear HG;go_wp2_with fail
       go_loopw [20] (λi W=>∃(q:Nat) (t:Tol) (ow1:Nat->Tag),q<=c.n/\i= .int .i64 q/\uS (GivG (RT c y K base) base w1 (S.aged.rounds c c.m) ow tb wb 64 y.hb (cA c S.aged c.n++dW c S q) (dJ c S c.m) gb L t W ow1)) (λi _=>c.n-(intOf i).toNat)
       case atStart=>exact⟨0,t,ow2,qL _,rfl,HG0⟩
       case round=>
        obtain⟨q,t,ow5,hq,rfl,HG⟩:=hrel;obtain⟨HSL,HQL⟩:=uI (zEi c S.aged hn8 c.n (qA _)) (zIk c S q);by_cases hltq:q<c.n
        ·have hltq':(q:Int)<(c.n:Int):=by omega
         have hp:RW wr c y _ K base _:=HG.s.tk.tk.pw;obtain⟨r,hri,hrz⟩:=giv_at HZ.s hltq;have hrr:=HG.s.giv.rows r (qB hri);have hcl:=HG.s.giv.cell hri;obtain⟨rA,rc,hrv,_⟩:=bE hrr;have hcaps:=fH (by rw[hrv]at hrr;exact hrr);obtain⟨rn,hrn⟩:=kB r.zs.length;have HAK:=uT (λW (hW:uR wr W)=>zZg c ⟨rA,r.zs.length,rc,r.zs⟩ W.heap.size W ((hp.calm hW).cfg.more (hp.calm hW).bw) ⟨rfl,hcaps.2.1,hcaps.2.2,Reads.of_own (bI (by rw[hrv]at hrr;exact hrr) hW)⟩ (qA _));rw[hrv,<-hrn]at hcl;unfold Cfg.val zAp at HAK;dsimp only at HAK;rw[<-hrn,hrz]at HAK;obtain⟨c0,c1,c2,c3,c4⟩:=(hp).cfgs;have e0:=λm:Ext wr=>m.cell c0
         have e1:=λm:Ext wr=>m.cell c1
         have e2:=λm:Ext wr=>m.cell c2
         have e3:=λm:Ext wr=>m.cell c3
         have e4:=λm:Ext wr=>m.cell c4
         clear c0 c1 c2 c3 c4;have e5:=λm:Ext wr=>m.cell (HG.s.tk.tk.wk.cell 0)
         have e6:=λm:Ext wr=>m.cell hcl
         have HNL:=uT (zFp c (fO c S c.m q) hm3.2);clear hp hri hrz hrr hrv hcaps hrn hcl;go_upto_region 38 with fail;refine gT [0,1,2,3,4,5,6,7] [8,9] [10,11,12,13] (by kernel_rfl) (by kernel_rfl) (by intro c a d v w h;cases d<;>exact h) ?_;simp only[bB,qJ,qO,qD,qE]
         repeat(go_big_quiet_step (fail))
         refine qF ?_;clear e0 e1 e2 e3 e4 e5 e6;have hd0:uR wr wr.drew:=(qC _ _).drew;generalize wr.drew=wd at hd0⊢;simp only[fJ];go_wp2_with fail;refine(HAK.s wd hd0).mono ?_;rintro _ w6 ⟨v6,rfl,ho6,hb6⟩;obtain⟨ow6,hC,⟨A6,n6,c6,B6,rfl,hdl6,hr6,hBB6,hoff6⟩⟩:=(HG.s.calm hd0).claim hb6 ho6;have hd6:=hd0.trans (hb6.mono hd0.size);have hnl:=HNL.s;have hll:(cA c S.aged c.n++dW c S q).length<=100:=by rw[qM];have:=HSL.s;have:=HQL.s;omega
         obtain⟨HSE,HC⟩:=uI (zTm hC.tk.tk (show(S.lts++_).length<=1000000 by rw[qM];have:=HS.s.len;omega) (λid hid=>by show id<((S.lts++_).length:Int);rw[qM];have:=HLS.s id hid;omega) c.n q A6 n6 c6 (fQ c (fO c S c.m q)).1 B6 hdl6 (by omega) hr6 hBB6 hoff6 (by have:=hC.tk.sn;omega)) hC;clear ho6 hb6 hnl hll hr6 hdl6 hBB6 hoff6 hC hd0 HAK;go_wp2_with fail;refine⟨⟨⟨_,hd6⟩,rfl⟩,?_⟩;go_wp2_with fail;refine⟨⟨⟨_,hd6⟩,rfl⟩,?_⟩
         repeat(go_big_quiet_step (fail))
         refine qF ?_;clear hd6;go_wp2_with fail;refine HSE.s.mono ?_;rintro _ w7 hp;obtain⟨rfl,t4,ow7,h4⟩:=HC.s.send hp;have H4:=uT h4;clear hp h4 HSE HC;go_wp2_with fail;go_roundw
         case rel=>exact⟨q+1,t4,ow7,by omega,by go_num,by rw[zMe,<-jK];exact H4⟩
         case measure=>simp[intOf];omega
        ·obtain rfl:q=c.n:=by omega
         have hKT:=HG.s.tk.tk.tk;obtain⟨g0,g1,g2,g3,g4,g5,g6,g7,g8,g9,g10⟩:=dM hKT;have HKQ:=uT (HG.s.tk.tk.kept.blk HQ.s.1 HQ.s.2);obtain⟨f0,f1,f2,f3,f4,f5,f6,f7,f8,f9,f10⟩:=bS HKQ.s;obtain⟨q0,q1,q2,q3,q4,q5,q6,q7,q8,q9,q10⟩:=dM HKQ.s;clear hKT;go_wp2_with fail;change bodyPost _ _ _ _ _ (wrT wr qb t);have k9:=zFu HKQ.s rfl t;have HO9:=uT (zDr wr qb t);clear g0 g1 g2 g3 g4 g5 g6 g7 g8 g9 g10 f0 f1 f2 f3 f4 f5 f6 f7 f8 f9 f10 q0 q1 q2 q3 q4 q5 q6 q7 q8 q9 q10;generalize wrT wr qb t=w9 at k9 HO9⊢;obtain⟨d0,d1,d2,d3,d4,d5,d6,d7,d8,d9,d10⟩:=dM k9;refine bodyPost_ret (v:=t.val) (by simp[results,Tryz.results43,go_sem,d0,d1,d2,d3,d4,d5,d6,d7,d8,d9,d10,Tol.val]) rfl (HG.s.finR HB1.s HQ.s.1 HQ.s.2 HIX.s.2.1 HBW.s HO9.s)
end
structure StT(w:World)(c:Cfg)(y:fD)(base:Nat)(ow:Nat->Tag)(sb qb:Nat)(s:StpI)(K:Nat)(S:WS)(W:World)(ow1:Nat->Tag):Prop where
 pw:RW W c y S K base ow1
 kept:Kept w W ow ow1
 sk:Blk W sb 48 s.cells.toArray
 qk:Blk W qb 57 (bR 0 0).cells.toArray
 sn:ow1 sb= .no
 qn:ow1 qb= .no
 ql:w.heap.size<=qb
 bw:base<=w.heap.size
section
variable {w W W':World}{c:Cfg}{y:fD}{S S':WS}{K K' base sb qb:Nat}{ow ow1 ow2:Nat->Tag}{s:StpI}{t:Tol}
theorem StT.turn(h:StT w c y base ow sb qb s K S W ow1)(hp:RW W' c y S' K' base ow2)(hk:Kept W W' ow1 ow2):StT w c y base ow sb qb s K' S' W' ow2:=
 ⟨hp,h.kept.trans hk,hk.blk h.sk h.sn,hk.blk h.qk h.qn,(hk.old sb h.sk.lt).trans h.sn,(hk.old qb h.qk.lt).trans h.qn,h.ql,h.bw⟩
theorem StT.calm(h:StT w c y base ow sb qb s K S W ow1)(hb:uR W W'):StT w c y base ow sb qb s K S W' ow1:=h.turn (h.pw.calm hb) (Kept.calm hb)
theorem StT.of(h:RW w c y S K base ow):StT w c y base ow w.heap.size (w.heap.size+1) s K S ((w.alloc (.cells s.cells.toArray 48)).alloc (.cells (bR 0 0).cells.toArray 57)) ow:=by have hb:uR w ((w.alloc (.cells s.cells.toArray 48)).alloc (.cells (bR 0 0).cells.toArray 57)):=((qC _ _).alloc (qA _) _).alloc (by simp) _;refine⟨h.calm hb,Kept.calm hb,(Blk.new w _ _).alloc _,?_,h.fresh _ (qA _),h.fresh _ (by omega),by omega,h.bw⟩;have h1:=Blk.new (w.alloc (.cells s.cells.toArray 48)) 57 (bR 0 0).cells.toArray;simpa using h1
theorem StT.fin(h:StT w c y base ow sb qb s K S W ow1)(hto:TolOwn t W w.heap.size)(htn:TolNo t ow1)(ho:Only (λk=>k=qb) W W'):StepR w c y K base ow (t.d,S) (.returned t.val) W':=by
 have hn:∀{e:TypeId} {size n:Nat} {v:Value} {xs:List Value},W.ownsRow w.heap.size e size v n xs->e≠57->W'.ownsRow w.heap.size e size v n xs:=λhv h1=>bL hv ho λk hk e=>bC hv h.qk h1 (by rw[hk,e])
 exact⟨t,rfl,rfl,⟨hn hto.so (by decide),hn hto.fo (by decide),hn hto.ro (by decide)⟩,ow1,h.pw.far ho (λk _ e=>by rw[e];exact h.qn) (λk hk e=>by have:=h.ql;have:=h.bw;omega),⟨h.kept.only.trans ho (λx hx e=>by have:=h.ql;omega),h.kept.old⟩,htn⟩
theorem StT.told(h:StT w c y base ow sb qb s K S W ow1)(code who:Int)(ho:Only (λk=>k=qb) W W'):StepR w c y K base ow (bY code who,S) (.returned (bR code who).val) W':=
 h.fin (t:=bR code who) (zDn _ _ _ _) (zEr _ _ _) ho
structure TdT(w:World)(tb:Nat)(t:Tol)(W:World)(ow1:Nat->Tag):Prop where
 tk:Blk W tb 57 t.cells.toArray
 tn:ow1 tb= .no
 own:TolOwn t W w.heap.size
 no:TolNo t ow1
theorem TdT.turn{tb:Nat}(h:TdT w tb t W ow1)(hk:Kept W W' ow1 ow2):TdT w tb t W' ow2:=
 ⟨hk.blk h.tk h.tn,(hk.old tb h.tk.lt).trans h.tn,h.own.kept h.no hk,h.no.turn h.own hk⟩
theorem TurnR.run{S2:WS}(h:TurnR W c y S2 K' base ow1 W')(hs:StT w c y base ow sb qb s K S W ow1):∃ow2,StT w c y base ow sb qb s K' S2 W' ow2/\Kept W W' ow1 ow2:=by obtain⟨ow2,h1,h2⟩:=h;exact⟨ow2,hs.turn h1 h2,h2⟩
end
structure DT(w:World)(c:Cfg)(y:fD)(base:Nat)(ow:Nat->Tag)(sb qb fb tb:Nat)(s:StpI)(f:FrR)(t:Tol)(K:Nat)(S:WS)(W:World)(ow1:Nat->Tag):Prop where
 st:StT w c y base ow sb qb s K S W ow1
 td:TdT w tb t W ow1
 fk:Blk W fb 146 f.cells.toArray
 fn:ow1 fb= .no
section
variable {w W W':World}{c:Cfg}{y:fD}{S S':WS}{K K' base sb qb fb tb:Nat}{ow ow1 ow2:Nat->Tag}{s:StpI}{t:Tol}{f:FrR}
theorem DT.turn(h:DT w c y base ow sb qb fb tb s f t K S W ow1)(hp:RW W' c y S' K' base ow2)(hk:Kept W W' ow1 ow2):DT w c y base ow sb qb fb tb s f t K' S' W' ow2:=
 ⟨h.st.turn hp hk,h.td.turn hk,hk.blk h.fk h.fn,(hk.old fb h.fk.lt).trans h.fn⟩
theorem DT.calm(h:DT w c y base ow sb qb fb tb s f t K S W ow1)(hb:uR W W'):DT w c y base ow sb qb fb tb s f t K S W' ow1:=h.turn (h.st.pw.calm hb) (Kept.calm hb)
end
theorem TurnR.runD{w W W':World}{c:Cfg}{y:fD}{S S2:WS}{K K' base sb qb fb tb:Nat}{ow ow1:Nat->Tag}{s:StpI}{t:Tol}{f:FrR}(h:TurnR W c y S2 K' base ow1 W')(hs:DT w c y base ow sb qb fb tb s f t K S W ow1):∃ow2,DT w c y base ow sb qb fb tb s f t K' S2 W' ow2/\Kept W W' ow1 ow2:=by obtain⟨ow2,h1,h2⟩:=h;exact⟨ow2,hs.turn h1 h2,h2⟩
def zBj(p:PoD)(A:Option Addr)(n cc:Nat):Tol:=⟨⟨0,p.to_,Stk.none,0,[],p.data,[]⟩,none,0,0,A,n,cc,none,0,0⟩
structure DlT(w5:World)(p:PoD)(tb:Nat)(A:Option Addr)(n cc:Nat)(W:World):Prop where
 bw:uR w5 W
 lt:w5.heap.size<=tb
 tk:Blk W tb 57 (zBj p A n cc).cells.toArray
 row:W.ownsRow w5.heap.size 5 1 (.slice A n cc) n (p.data.map (.int .u8))
theorem DlT.td{w w5 W:World}{p:PoD}{tb n cc:Nat}{A:Option Addr}{ow1:Nat->Tag}(h:DlT w5 p tb A n cc W)(hw:w.heap.size<=w5.heap.size)(hf:∀k,w5.heap.size<=k->ow1 k= .no):TdT w tb (zBj p A n cc) W ow1:=by
 refine⟨h.tk,hf tb h.lt,⟨qH _ _ _ _,dU h.row hw,qH _ _ _ _⟩,λv hv k hk=> ?_⟩;rcases hv with rfl|rfl|rfl
 ·cases hk
 ·exact hf k (h.row.lt k hk).1
 ·cases hk
theorem yDi{S:WS}{fr:Nat}{l:List Int}{k:Nat}{x:Int}(hx:(S.bk k).wants[fr]? =some x)(hl:l.getD k 0<=x):S.wants fr l (k+1)=S.wants fr l k:=by
 rw[zLm,show(S.wants fr l k).bk k=S.bk k from if_neg (Nat.lt_irrefl k)];have e:zCs (S.bk k) fr (l.getD k 0)=S.bk k:=by unfold zCs;rw[show max ((S.bk k).wants.getD fr 0) (l.getD k 0)=x by rw[qG,hx];show max x _=x;omega,zJq _ _ _ hx]
 rw[e,show S.bk k=(S.wants fr l k).bk k from(if_neg (Nat.lt_irrefl k)).symm,zNu]
theorem getD_at{l:List Int}{k:Nat}{z:Int}(h:l[k]? =some z):l.getD k 0=z:=by rw[qG,h];rfl
theorem ent_ok{K:Int}{l:List Ent}(hm:bU l=true)(hg:∀e∈l,zEu e)(ht:∀e∈l,e.time<=K):∀e∈l,e.key<8/\EntOk K e:=λe he=>by have h:=(gX hm).2.2.2 e he;obtain⟨_,⟨h1,h2⟩,⟨h3,h4⟩,h5⟩:=zFz h;refine⟨(hg e he).1,⟨⟨h1,(hg e he).2⟩,⟨h3,ht e he⟩,h5,λhgn=> ?_⟩⟩;unfold gJ inP at h;simp[hgn]at h;omega
def zDt(S:WS)(i m:Nat)(es:List Ent)(j:Nat):WS:={S with st:=bN S.st i ((S.st i).set m (dY ((S.st i).getD m []) (es.take j)).1)}
section
variable {W:World}{c:Cfg}{y:fD}{S:WS}{K base i m:Nat}{ow:Nat->Tag}{es:List Ent}
theorem RW.rowAt(h:RW W c y S K base ow)(hi:i<c.n)(hm:m<c.ln):∃a:List Slot,(S.st i).getD m []=lsS a/\Keyed K 0 a/\a.length=8:=by obtain⟨Q,x,z,q,h1,h2,h3,hx,hz,hq,hql,hqg⟩:=h.shv hi;exact⟨fS q m,(row_of h3 hq hi hm).symm,hqg.row m,zGx q m c.ln hql hm⟩
theorem yDt(h:RW W c y S K base ow)(hi:i<c.n)(hm:m<c.ln)(hl:(S.st i).length=c.ln)(hK:K<=1000):zDt S i m es 0=S:=by obtain⟨a,h1,h2,h3⟩:=h.rowAt hi hm;have e:=(zJf (b:=[]) h2 (by omega) h3 rfl λe he=>by cases he).1;unfold zDt;rw[jE,h1,e,List.foldl_nil,<-h1,zJq _ _ _ (show(S.st i)[m]? =some ((S.st i).getD m [])by rw[qG,qI (by omega)];rfl),zNu]
theorem yDq(h:RW W c y S K base ow)(hi:i<c.n)(hm:m<c.ln)(hl:(S.st i).length=c.ln)(hK:K<=1000){j:Nat}{e:Ent}(hb:bU es=true)(hbe:∀e∈es,e.key<8/\EntOk K e)(hk:es[j]? =some e):{zDt S i m es j with st:=bN (zDt S i m es j).st i (((zDt S i m es j).st i).set m (dY (((zDt S i m es j).st i).getD m []) [e]).1)}=zDt S i m es (j+1):=by
 obtain⟨a,h1,h2,h3⟩:=h.rowAt hi hm;unfold zDt;dsimp only;rw[dD,zVr,List.set_set];have e1:((S.st i).set m (dY ((S.st i).getD m []) (es.take j)).1).getD m []=(dY ((S.st i).getD m []) (es.take j)).1:=by rw[qG,jM (by omega)];rfl
 rw[e1,h1,yCx h2 (by omega) h3 hb hbe hk]
end
theorem due_at{S:WS}{k:Nat}{p:PoD}(hp:S.lts[k]? =some p)(ht:0<=p.to_):gD S k=if S.lost k||decide ((k:Int)<S.top p.fr p.to_)then 10 else 0:=by unfold gD WS.to_ toP;rw[if_neg (show ¬ ((k:Int)<0)by omega),qR,hp];dsimp only;rw[if_neg (by omega)]
theorem yCa{S:WS}{id:Int}(h:id<0\/(S.lts.length:Int)<=id):gD S id=6:=by
 unfold gD WS.to_ toP;by_cases h0:id<0
 ·rw[if_pos h0];rfl
 ·rw[if_neg h0,qU (by omega)];rfl
def smallD(d:zCl):Prop:=d.sent.length<=80/\d.frame.length<=136/\d.report.length<=3
def zNt(S:WS):Prop:=∀p∈S.lts,p.data.length<=136
section
variable {c:Cfg}{S:WS}
theorem yGr(p:PoD):(zAt c S p).lts=S.lts:=by
 unfold zAt
 split
 ·rfl
 split
 ·exact(zOa p.to_.toNat (dA c p.data).1 S (dA c p.data).1.length).2.2.2.2.1
 ·rfl
theorem yDk(hcf:bG c=true)(h:zNt S)(s:StpI):zNt (stepW c S s).2/\smallD (stepW c S s).1:=by
 obtain⟨⟨hn,hn1,hn8⟩,hln,_,⟨hm1,hm3⟩,_⟩:=bK hcf;have h0:∀a b,smallD (bY a b):=λa b=>⟨by simp[bY],by simp[bY],by simp[bY]⟩
 unfold stepW
 split
 ·refine⟨λp hp=> ?_,?_,?_,?_⟩
  ·have hp2:p∈S.lts++(cA c S.aged c.n++dW c S c.n):=hp;rcases jI.1 hp2 with hp|hp
   ·exact h p hp
   rcases jI.1 hp with hp|hp
   ·unfold cA at hp;obtain⟨i,_,hp⟩:=List.mem_flatMap.1 hp;rcases jD.1 hp with rfl|hp
    ·have:=zFp c (S.aged.ask i) hm3;show(fQ c (S.aged.ask i)).1.length<=136;omega
    ·unfold zAv at hp;obtain⟨j,_,rfl⟩:=jC.1 hp;exact zPv c i j (S.aged.st i) hln
   ·unfold dW at hp;obtain⟨i,_,rfl⟩:=jC.1 hp;have:=zFp c (fO c S c.m i) hm3;show(fQ c (fO c S c.m i)).1.length<=136;omega
  ·show(zGw S.lts.length (cA c S.aged c.n++dW c S c.n)).length<=80;rw[zPx,qM,zIk];have:=zEi c S.aged hn8 c.n (qA _);omega
  ·exact qL _
  ·show(dJ c S c.m).length<=3;unfold dJ;have:=List.length_filterMap_le (λj=>if 0<=zBt c S j then some (zBt c S j)else none) (List.range c.m);rw[List.length_range]at this;omega
 split
 ·unfold fZ
  split
  ·exact⟨h,h0 _ _⟩
  split
  ·exact⟨h,h0 _ _⟩
  rename_i p hp
  split
  ·exact⟨h,h0 _ _⟩
  ·refine⟨λp' hp'=> ?_,qL _,h p (qB hp),qL _⟩;rw[yGr]at hp';exact h p' hp'
 split
 ·split
  ·exact⟨h,h0 _ _⟩
  ·exact⟨h,h0 _ _⟩
 split
 ·exact⟨h,h0 _ _⟩
 split
 ·exact⟨h,h0 _ _⟩
 unfold fF
 split
 ·unfold fK
  split
  ·exact⟨h,h0 _ _⟩
  split
  ·exact⟨h,h0 _ _⟩
  split
  ·exact⟨h,h0 _ _⟩
  split
  ·exact⟨h,h0 _ _⟩
  ·exact⟨h,qL _,qL _,qL _⟩
 split
 ·exact⟨h,h0 _ _⟩
 split
 ·split
  ·exact⟨h,h0 _ _⟩
  split
  ·exact⟨h,h0 _ _⟩
  ·exact⟨h,h0 _ _⟩
 ·exact⟨h,qL _,qL _,qL _⟩
end
end Go.Proofs.YtbolcebmbpepdaaGreatDoor
