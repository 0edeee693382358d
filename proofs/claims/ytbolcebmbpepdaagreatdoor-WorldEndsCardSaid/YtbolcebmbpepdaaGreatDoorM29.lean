/- Contracts. Conditions: those each states. -/
import Derived.Test.YtbolcebmbpepdaaGreatDoorM28
namespace Go.Proofs.YtbolcebmbpepdaaGreatDoor
set_option maxRecDepth 100000
set_option maxHeartbeats 8000000
set_option linter.all false
open Go.RowKit Tryz
def treeE:OT:=(.fork (.next 2 (.fork (.next 3 (.next 9 (.next 10 (.next 11 (.next 12 .done))))) (.next 9 (.next 3 (.next 10 (.next 11 (.next 12 .done))))))) (.next 9 (.next 2 (.next 3 (.next 10 (.next 11 (.next 12 .done)))))))
theorem zKz{w x:World}{b}(h:x=w.alloc b):uR w x:=by rw[h];exact(qC _ _).alloc (qA _) _
theorem zNs{w x:World}{cs:Array Value}{t}(h:x=w.alloc (.cells cs t)):Blk x w.heap.size t cs:=by rw[h];exact Blk.new _ _ _
section
variable {w:World}{c:Cfg}
theorem zYh(A:Option Addr)(n cc:Nat)(ss:List StpI)(B:Nat)(hl:ss.length=n)(hm:n<=maxLen)(hr:Reads w B 8 A n (ss.flatMap StpI.cells))(hwf:∀s∈ss,zLr s)(hc:c.ok w B)(hB:B<=w.heap.size)(hT:OrdT w)(hg:0<w.heap.size):Calls prog 10 #[c.val,.slice A n cc] w (EndPost w c ss):=by
 obtain⟨cb,hcb⟩:=kB w.heap.size;obtain⟨wx,hwx⟩:=kB (w.alloc (.cells c.cells.toArray 24));have hbx:=uH hwx;have kc:Blk wx cb 24 c.cells.toArray:=by rw[hwx,hcb];exact Blk.new _ _ _
 have HPL:=uT (play_any A n cc ss B hl hm (hr.below (hbx.mono hB)) hwf (hc.below (hbx.mono hB)) (qN hB hbx.size) (λj hj=>(hbx.cell (p:=⟨_,j,none⟩) hg).trans (hT j hj)) (jQ hg hbx.size));have d0:wx.cell? ⟨cb,0,none⟩=some (.int .i64 c.br):=kc.cell 0;have d1:wx.cell? ⟨cb,1,none⟩=some (.slice c.la.A c.la.n c.la.c):=kc.cell 1;have d2:wx.cell? ⟨cb,2,none⟩=some (.int .i64 c.tk):=kc.cell 2;have d3:wx.cell? ⟨cb,3,none⟩=some (.slice c.mi.A c.mi.n c.mi.c):=kc.cell 3;have d4:wx.cell? ⟨cb,4,none⟩=some (.int .i64 c.cap):=kc.cell 4;obtain⟨HBX,HCB,HWX⟩:=uJ hbx hcb hwx;obtain⟨iI,hiI,hzI,hsI,hyI⟩:=zUh;obtain⟨iP,hiP,hzP,hsP,hyP⟩:=zRg;obtain⟨iQ,hiQ,hzQ,hsQ,hyQ⟩:=zOp;obtain⟨iS,hiS,hzS,hsS,hyS⟩:=zPl;unfold Cfg.val at HPL⊢;clear hbx kc hcb hwx hl hr hwf hT hc hB hg hm;go_enter func10,ntmps10;go_upto_region 1 with fail;rw[show(#[.int .i64 c.br,.slice c.la.A c.la.n c.la.c,.int .i64 c.tk,.slice c.mi.A c.mi.n c.mi.c,.int .i64 c.cap]:Array Value)=c.cells.toArray from rfl,<-HWX.s,<-HCB.s];go_wp2_with fail;refine HPL.s.mono ?_;rintro _ w1 hp;rcases hp with⟨hcf,rfl,hb⟩|⟨hcf,hn,rfl,hb⟩|⟨hcf,hn,v,outs,y,K,base,ow,rfl,hd,hp⟩
 ·obtain⟨HF,HB⟩:=uI hcf hb;clear hcf hb;go_wp2_with fail
  (try simp only[Exit.inBlock,Exit.then])
  refine bodyPost_ret (zDc rfl _ _ _) rfl ?_;exact .inl ⟨HF.s,rfl,HBX.s.trans (HB.s.mono HBX.s.size)⟩
 ·obtain⟨HF,HN,HB⟩:=uJ hcf hn hb;clear hcf hb hn;go_wp2_with fail
  (try simp only[Exit.inBlock,Exit.then])
  refine bodyPost_ret (zDc rfl _ _ _) rfl ?_;exact .inr (.inl ⟨HF.s,HN.s,rfl,HBX.s.trans (HB.s.mono HBX.s.size)⟩)
 ·obtain⟨S,hS⟩:=kB ((zAh c ss (WS.new c)).2);have hSok:S.ok c (0+ss.length):=by rw[hS];exact zLd hcf ss (WS.new c) 0 (zLh hcf)
  rw[<-hS]at hp;obtain⟨⟨hn1,hn2,hn8⟩,hln,_,⟨hm1,hm3⟩,_⟩:=bK hcf;obtain⟨HW,HBL⟩:=uI hp.pw (HBX.s.trans (hp.bel.mono HBX.s.size));obtain⟨con,⟨bcs,bk1,bk2⟩,⟨kcs,kk1,kk2⟩,cbrs,_⟩:=(show ConAt w1 c y (λk=>ow k= .con)from hp.pw.pc .con);have hsb:∀i,i<c.n->bcs[i]? =some (.pointer (some ⟨(y.br i).b,0,none⟩)):=bk2;obtain⟨HCON,HK1,HSE,HOK,HF,HN⟩:=uM con (And.intro kk1 kk2) hS hSok hcf hn;obtain⟨nn,hnn⟩:=kB c.n;obtain⟨mm,hmm⟩:=kB c.m;rw[<-hnn]at hn2 hn8;rw[<-hmm]at hm1 hm3;obtain⟨HNN,HMM⟩:=uI hnn hmm;obtain⟨b1,hb1⟩:=kB w1.heap.size;have HBB:=uT hb1;have c5:w1.cell? ⟨y.hb,5,none⟩=some (.slice (some ⟨y.bb,0,none⟩) nn y.bc):=by rw[hnn];exact con.cell 5
  have c6:w1.cell? ⟨y.hb,6,none⟩=some (.slice (some ⟨y.kb,0,none⟩) mm y.kc):=by rw[hmm];exact con.cell 6
  obtain⟨HR0,HBE0⟩:=uI (show w1.ownsRow b1 3 1 (.slice none 0 0) 0 (((List.range 0).map λj=>(S.bk j).reserve).map (.int .i64))from qH _ _ _ _) (show Below b1 w1 w1 from qC _ _);clear hS hSok hp con bk1 bk2 kk1 kk2 cbrs hsb hn1 hln hcf hn hd d0 d1 d2 d3 d4 hnn hmm hb1 HPL;go_wp2_with fail
  go_loopw [4,31] (λr i wr=>∃j:Nat,j<=mm/\i= .int .i64 j/\uS (wr.ownsRow b1 3 1 r j (((List.range j).map λj=>(S.bk j).reserve).map (.int .i64)))/\uS (Below b1 w1 wr)) (λ_ i _=>mm-(intOf i).toNat)
  case atStart=>exact⟨0,qL _,rfl,HR0,HBE0⟩
  case round=>
   obtain⟨j,hj,rfl,HR,HBE⟩:=hrel;by_cases hlt:j<mm
   ·have hji:(j:Int)<(mm:Int):=by omega
    have hbe:=HBE.s;rw[HBB.s]at hbe;have hpw:=HW.s.calm hbe;obtain⟨p,hpg,hbk,_⟩:=((show j<c.m->BkRow wr base (y.bg j) c.n c.cap c.tk (S.bk j) (λk=>ow k= .bk j)from hpw.pc (.bk j)) (by rw[<-HMM.s];exact hlt)).at_;have e1:wr.cell? ⟨y.kb,j,none⟩=some (.pointer (some ⟨y.bg j,0,none⟩)):=((HK1.s.1.below hbe HK1.s.1.lt).cell j).trans (HK1.s.2 j (by rw[<-HMM.s];exact hlt));have e2:wr.cell? ⟨y.bg j,3,none⟩=some (.int .i64 (S.bk j).reserve):=by rw[<-hpg];exact hbk.blk.cell 3
    obtain⟨rA,rc,hv,_⟩:=bE HR.s;subst hv;have HMQ:=uT (show(j+1)*8<=140737488355328 by omega);have hsz:b1<=wr.heap.size:=by rw[HBB.s];exact hbe.size
    clear hbe hpw hpg hbk;go_wp2_with(first
     |(at_builtin;(refine bF wr rfl (.tmp 35) (.tmp 40) _ rfl b1 3 iI _ 1 8 underlying22 hiI hzI hsI hyI rfl (by omega) (by omega) _ j _ HR.s rfl _ 1 _ rfl rfl rfl (by simp[Value.oneCell']) HMQ.s hsz ?_);intro g7 cap7 w7 hg7 hown7 hbel7 hgr7 hat7
       obtain⟨HR7,HB7⟩:=uI (show w7.ownsRow b1 3 1 (.slice (some ⟨g7,0,none⟩) (j+1) cap7) (j+1) (((List.range (j+1)).map λj=>(S.bk j).reserve).map (.int .i64))by rw[zBh,jA];exact hown7) (hbel7 b1 w1 (qA _) HBE.s);clear hg7 hown7 hbel7 hgr7 hat7))
    go_roundw
    case rel=>exact⟨j+1,by omega,by go_num,HR7,HB7⟩
    case measure=>simp[intOf];omega
   ·obtain rfl:mm=j:=by omega
    obtain⟨b2,hb2⟩:=kB wr.heap.size;obtain⟨w2,hw2⟩:=kB wr;rw[<-hw2]at HR HBE hb2⊢;clear hw2;have hbe:=HBE.s;rw[HBB.s]at hbe;obtain⟨HW2,HBL2,HB2⟩:=uJ (HW.s.calm hbe) (HBL.s.trans (hbe.mono HBL.s.size)) hb2;have c5':w2.cell? ⟨y.hb,5,none⟩=some (.slice (some ⟨y.bb,0,none⟩) nn y.bc):=(hbe.cell (p:=⟨y.hb,5,none⟩) HCON.s.lt).trans c5;obtain⟨HP0,HS0,HC0,HD0⟩:=uK (PuOwn.nil w2 b2) (show w2.ownsRow b2 78 1 (.slice none 0 0) 0 ((List.range 0).map (zDh c y))from qH _ _ _ _) (show Below b2 w2 w2 from qC _ _) (show([]:List PuR).map (·.ps)=(List.range 0).map (zFj c S)from rfl);clear hbe c5 c6 hb2 HBE0 HR0;go_wp2_with fail
    go_loopw [5,6,48] (λp s i wr=>∃(k:Nat) (rs:List PuR),k<=nn/\i= .int .i64 k/\uS (PuOwn wr b2 p rs)/\uS (rs.map (·.ps)=(List.range k).map (zFj c S))/\uS (wr.ownsRow b2 78 1 s k ((List.range k).map (zDh c y)))/\uS (Below b2 w2 wr)) (λ_ _ i _=>nn-(intOf i).toNat)
    case atStart=>exact⟨0,[],qL _,rfl,HP0,HD0,HS0,HC0⟩
    case round=>
     obtain⟨k,rs,hk,rfl,HP,HD,HS,HC⟩:=hrel;by_cases hlt:k<nn
     ·have hki:(k:Int)<(nn:Int):=by omega
      have hkc:k<c.n:=by rw[<-HNN.s];exact hlt
      obtain⟨w3,hw3⟩:=kB wr;rw[<-hw3]at HP HS HC⊢;clear hw3;have hc2:=HC.s;rw[HB2.s]at hc2;have hpw:=HW2.s.calm hc2;obtain⟨con,⟨bcs,bk1,bk2⟩,_,cbrs,_⟩:=(show ConAt w3 c y (λk=>ow k= .con)from hpw.pc .con);have e1:w3.cell? ⟨y.bb,k,none⟩=some (.pointer (some ⟨(y.br k).b,0,none⟩)):=(bk1.cell k).trans (bk2 k hkc);have kbr:=cbrs k hkc;have e2:w3.cell? ⟨(y.br k).b,0,none⟩=some (.slice (some ⟨(y.br k).s,0,none⟩) mm mm):=by rw[HMM.s];exact kbr.cell 0
      obtain⟨b3,hb3⟩:=kB w3.heap.size;obtain⟨HB3,HKB,HPW,hmr,hm0⟩:=uL hb3 kbr hpw (show w3.ownsRow b3 42 6 (.slice none 0 0) 0 (((List.range 0).map λq=>(⟨(S.ask k).getD q 0,(S.sh k q).stock 0 0⟩:PurD)).flatMap PurD.cells)from qH _ _ _ _) (show Below b3 w3 w3 from qC _ _);clear hc2 hpw con bk1 bk2 cbrs kbr hb3;go_wp2_with fail
      go_loopw [14,57] (λv i wr=>∃q:Nat,q<=mm/\i= .int .i64 q/\uS (wr.ownsRow b3 42 6 v q (((List.range q).map λq=>(⟨(S.ask k).getD q 0,(S.sh k q).stock 0 0⟩:PurD)).flatMap PurD.cells))/\uS (Below b3 w3 wr)) (λ_ i _=>mm-(intOf i).toNat)
      case atStart=>exact⟨0,qL _,rfl,hmr,hm0⟩
      case round=>
       obtain⟨q,hq,rfl,HMR,HMB⟩:=hrel;by_cases hlq:q<mm
       ·have hqi:(q:Int)<(mm:Int):=by omega
        have hqc:q<c.m:=by rw[<-HMM.s];exact hlq
        have hmb:=HMB.s;rw[HB3.s]at hmb;have hpw:=HPW.s.calm hmb;have kbr:=HKB.s.below hmb HKB.s.lt;obtain⟨hrow,_,_⟩:=(show k<c.n->NumRow wr base (y.br k).a (S.ask k) (λq=>ow q= .ask k)from hpw.pc (.ask k)) hkc;obtain⟨⟨shc,shv,hsh,_⟩,_⟩:=(show k<c.n->ShRow wr base (y.br k).s c.m (S.sh k) (λq=>ow q= .sh k)from hpw.pc (.sh k)) hkc;obtain⟨hsq,_⟩:=hsh q hqc;have hsok:=HOK.s.sh k q;have HSTK:=uT (λn:Ext wr=>zLa base (y.br k).s (q*4) shc (S.sh k q) (shv q) n.W (hsq.calm n.h) hsok.len λx hx=>by have:=hsok.each x hx;omega);have f1:=λn:Ext wr=>n.cell (show wr.cell? ⟨(y.br k).b,1,none⟩=some (.slice (some ⟨(y.br k).a,0,none⟩) mm mm)by rw[HMM.s];exact kbr.cell 1)
        have f0:=λn:Ext wr=>n.cell (show wr.cell? ⟨(y.br k).b,0,none⟩=some (.slice (some ⟨(y.br k).s,0,none⟩) mm mm)by rw[HMM.s];exact kbr.cell 0)
        have f2:=λn:Ext wr=>n.cell (hrow.cell (bX (HOK.s.ask k).1 hqc))
        obtain⟨stk,hstk⟩:=kB ((S.sh k q).stock 0 0);obtain⟨ak,hak⟩:=kB ((S.ask k).getD q 0);rw[<-hstk]at HSTK;rw[<-hak]at f2;have HEL:=uT (And.intro hstk hak);unfold Stk.val at HSTK;obtain⟨mA,mc,hv,_⟩:=bE HMR.s;subst hv;have HMQ:=uT (show(q+1)*48<=140737488355328 by omega);have hsz:b3<=wr.heap.size:=by rw[HB3.s];exact hmb.size
        clear hmb hpw kbr hrow hsh hsq hsok hstk hak;go_upto_region 16 with fail;refine bO [0] [1,2,3,4,5,6,7,8,9,10,11,12,13] [14] [15,16] 17 [18] (by kernel_rfl) (by kernel_rfl) (by intro c a d v w h;cases d<;>exact h) ?_;simp only[bB,qJ,qO,qD,qE]
        repeat(go_big_quiet_step (fail))
        refine qF ?_
        repeat(go_big_quiet_step (fail))
        refine qF ?_
        repeat(go_big_quiet_step ((go_at_call 27;exact fT (HSTK.s _))))
        refine qF ?_;rintro W ⟨nq,hW⟩;have hWB:uR wr W:=hW▸nq.h;clear hW;obtain⟨HMR2,HMB2⟩:=uI (bI HMR.s hWB) (HMB.s.trans (hWB.mono hsz));have hsz2:b3<=W.heap.size:=qN hsz hWB.size;clear f0 f1 f2 hsz;simp only[fJ];go_wp2_with fail;refine⟨⟨⟨_,hWB⟩,rfl⟩,?_⟩;go_wp2_with fail;refine⟨⟨⟨_,hWB.alloc hWB.size _⟩,rfl⟩,?_⟩;clear hWB;go_wp2_with(first
         |(at_builtin;(refine bF W rfl (.tmp 60) (.tmp 76) _ rfl b3 42 iP _ 6 48 underlying38 hiP hzP hsP hyP rfl (by omega) (by omega) _ q _ HMR2.s rfl _ 1 _ rfl rfl rfl (by simp[Value.oneCell']) HMQ.s hsz2 ?_);intro g7 cap7 w7 hg7 hown7 hbel7 hgr7 hat7
           obtain⟨HR7,HB7⟩:=uI (show w7.ownsRow b3 42 6 (.slice (some ⟨g7,0,none⟩) (q+1) cap7) (q+1) (((List.range (q+1)).map λq=>(⟨(S.ask k).getD q 0,(S.sh k q).stock 0 0⟩:PurD)).flatMap PurD.cells)by rw[zBh,jN,List.flatMap_singleton,<-HEL.s.1,<-HEL.s.2];exact hown7) (hbel7 b3 w3 (qA _) HMB2.s);clear hg7 hown7 hbel7 hgr7 hat7))
        go_roundw
        case rel=>exact⟨q+1,by omega,by go_num,HR7,HB7⟩
        case measure=>simp[intOf];omega
       ·obtain rfl:mm=q:=by omega
        obtain⟨wq,hwq⟩:=kB wr;rw[<-hwq]at HMR HMB⊢;clear hwq;have hmb:=HMB.s;rw[HB3.s]at hmb;have e3:=λW (hW:Below b2 w2 W)=>show W.cell? ⟨(y.br k).b,3,none⟩=some (zDh c y k)from by have hc2:=hW;rw[HB2.s]at hc2;exact(HW2.s.calm hc2|>.pc .con|>λh:ConAt W c y (λk=>ow k= .con)=>h.brs k hkc).cell 3
        obtain⟨ps,hps⟩:=kB (zFj c S k);have hpl:ps.length=mm:=by rw[hps];unfold zFj;rw[qQ,List.length_range];exact HMM.s.symm
        obtain⟨mA,mc,hv,_⟩:=bE HMR.s;obtain⟨r,hr⟩:∃r:PuR,r=⟨ps,mA,mc⟩:=⟨_,rfl⟩;have hrv:u14=r.val:=by rw[hv,hr];unfold PuR.val;dsimp only;rw[hpl]
        have HRO:=uT (show wq.ownsRow b2 42 6 r.val r.ps.length (r.ps.flatMap PurD.cells)by rw[<-hrv,show r.ps=ps by rw[hr],hpl,hps];have h:=dU HMR.s (show b2<=b3 by rw[HB3.s,HB2.s];exact HC.s.size);rw[HMM.s]at h⊢;exact h)
        have hrs:rs.length=k:=by have:=congrArg List.length HD.s;simpa using this
        obtain⟨HD2,HP',HS',HC',HRL⟩:=uL (show(rs++[r]).map (·.ps)=(List.range (k+1)).map (zFj c S)by rw[jA,HD.s,zBh,List.map_singleton,<-hps,hr]) (HP.s.calm hmb) (bI HS.s hmb) (HC.s.trans (hmb.mono (by rw[HB2.s];exact HC.s.size))) hrs;have hsv1:(zDh c y k).oneCell'=true:=rfl;obtain⟨HKM,HKB24⟩:=uI (show k+1<=maxLen by unfold maxLen;omega) (show(k+1)*24<=140737488355328 by omega);rw[hv];have HRV:=uT (show r.val= .slice mA mm mc from hrv.symm.trans hv);clear hmb hps hpl hv hr hrv hrs HMR HMB;clear HP HS HC;have HP:=HP';have HS:=HS';have HC:=HC';clear HP' HS' HC';have f3:=λn:zAl (λW=>Below b2 w2 W)=>e3 n.W n.h
        unfold zDh at f3;clear e3;go_upto_region 18 with fail;haveI hne:Nonempty (zAl λW=>Below b2 w2 W):=⟨⟨_,HC.s⟩⟩;refine zCn (C:=λw'=>∃n:zAl (λW=>Below b2 w2 W),w'=n.W) [0,1,4,5,6,7,8] [2,3,9,10,11,12] treeE (by kernel_rfl) (by kernel_rfl) (by intro c a d v w h;cases d<;>exact h) ⟨⟨_,HC.s.drew⟩,rfl⟩ ?_;simp only[bB,qJ,qO,qD,qE]
        repeat(go_big_quiet_step (fail))
        refine qF ?_;obtain⟨HP2,HS2,HC2,HRO2⟩:=uK (HP.s.calm (qC _ wq).drew) (bI HS.s (qC _ wq).drew) (HC.s.drew) (bI HRO.s (qC _ wq).drew);clear f3 HP HS HC HRO;generalize wq.drew=wd at HP2 HS2 HC2 HRO2⊢;have HP:=HP2;have HS:=HS2;have HC:=HC2;have HRO:=HRO2;clear HP2 HS2 HC2 HRO2;unfold treeE
        repeat' first
         |refine zAx ?_ ?_
         |refine bP λK0 hK0=> ?_
          simp only[bB,qJ,qO,qD,qE]
          first
           |go_wp2_with fail
            first
             |obtain⟨wd,hwn⟩:=kB (wd.alloc (.cells #[(.slice mA mm mc)] 38))
              rw[<-hwn];have hbn:=zKz hwn
              try replace HF:=uT (HF.s.below hbn HF.s.lt)
              have HE:=uT (zNs hwn)
             |obtain⟨wd,hwn⟩:=kB (wd.alloc (.cells #[zDh c y k] 78))
              unfold zDh at hwn;rw[<-hwn];have hbn:=zKz hwn
              try replace HE:=uT (HE.s.below hbn HE.s.lt)
              have HF:=uT (show Blk wd _ 78 #[zDh c y k]from zNs hwn)
            replace HP:=uT (HP.s.calm hbn);replace HS:=uT (bI HS.s hbn)
            try replace HRO:=uT (bI HRO.s hbn)
            replace HC:=uT (HC.s.trans (hbn.mono (by rw[HB2.s];exact HC.s.size)));clear hwn hbn
           |have HQ:=uT (show wd.ownsRow b2 38 1 _ k (rs.map PuR.val)by have h:=HP.s.1;rw[HRL.s]at h;exact h)
            go_wp2_with(first
             |(at_builtin;(refine fL _ rfl (.tmp 79) (.tmp 81) _ rfl b2 38 iQ _ 1 24 underlying32 hiQ hzQ hsQ hyQ rfl (by omega) _ k _ rfl HQ.s _ _ 1 1 [.slice mA mm mc] rfl (gQ HE.s HE.s.lt) (by simp[Value.oneCell']) HKM.s HKB24.s (by rw[HB2.s];exact HC.s.size) ?_);intro v7 wd hown7 hgr7 hat7))
            have hp7:=HP.s.push HRO.s hgr7 (by rw[HRL.s,HRV.s];exact hown7);have hs7:=fP HS.s HP.s.1 (by decide) hgr7;have hc7:=zUr HC.s HP.s.1 hgr7 (qA _) (by rw[HB2.s];exact HC.s.size)
            try replace HF:=uT (Blk.grown HF.s hgr7 λe=>bC HQ.s HF.s (by decide) e.symm)
            clear HP HS HC HE HRO HQ;obtain⟨HP,HS,HC⟩:=uJ hp7 hs7 hc7;clear hp7 hs7 hc7 hown7 hgr7 hat7
           |go_wp2_with(first
               |(at_builtin;(refine fL _ rfl (.tmp 83) (.tmp 88) _ rfl b2 78 iS _ 1 24 underlying33 hiS hzS hsS hyS rfl (by omega) _ k _ rfl HS.s _ _ 1 1 [zDh c y k] rfl (gQ HF.s HF.s.lt) (by simp[hsv1]) HKM.s HKB24.s (by rw[HB2.s];exact HC.s.size) ?_);intro v7 wd hown7 hgr7 hat7))
            have hp7:=HP.s.far HS.s (by decide) (by decide) hgr7;have hs7:wd.ownsRow b2 78 1 v7 (k+1) ((List.range (k+1)).map (zDh c y)):=by rw[zBh];exact hown7
            have hc7:=zUr HC.s HS.s hgr7 (qA _) (by rw[HB2.s];exact HC.s.size);clear HP HS HC HF;obtain⟨HP,HS,HC⟩:=uJ hp7 hs7 hc7;clear hp7 hs7 hc7 hown7 hgr7 hat7
           |go_wp2_with fail
          refine hK0 _ wd (λ_=>⟨⟨_,HC.s⟩,rfl⟩) ?_;clear hK0 K0
        all_goals
         refine gV ?_;go_wp2_with(fail);go_roundw
         case rel=>exact⟨k+1,rs++[r],by omega,by go_num,HP,HD2,HS,HC⟩
         case measure=>simp[intOf];omega
     ·obtain rfl:nn=k:=by omega
      obtain⟨rA,rc,hv,_⟩:=bE HR.s;subst hv;have hc2:=HC.s;rw[HB2.s]at hc2;have hpw:=HW2.s.calm hc2;have hrr:=bI HR.s hc2;have hpu:=HP.s.rd;rw[HD.s]at hpu;have hst:=HS.s;rw[HNN.s]at hst hpu;have HFIN:=uT (show EndPost w c ss (.returned (.tuple #[.slice rA mm rc,u5,u6,.int .i64 0])) wr from
       .inr (.inr ⟨HF.s,HN.s,rA,mm,rc,u5,u6,rfl,HMM.s,by rw[<-HSE.s];unfold resP;rw[<-HMM.s];exact Reads.of_own hrr,by rw[<-HSE.s];exact hpu,by rw[<-HSE.s];exact yDl hpw (λi=>(HOK.s.st i).1) hst,HBL2.s.trans (hc2.mono HBL2.s.size)⟩))
      clear hc2 hpw hrr hpu hst;go_wp2_with fail
      (try simp only[Exit.inBlock,Exit.then])
      refine bodyPost_ret (zDc rfl _ _ _) rfl ?_;exact HFIN.s
end
def zJh(c:Cfg)(ss:List StpI):List Int×List (List PurD)×List (List (List Ent))×Int:=
 if bG c=false then([],[],[],4)else if 300<ss.length then([],[],[],1)else
  (resP c (zAh c ss (WS.new c)).2,zUa c (zAh c ss (WS.new c)).2,zOk c (zAh c ss (WS.new c)).2,0)
def EndAt(w:World)(p:List Int×List (List PurD)×List (List (List Ent))×Int)(e:Ending)(w':World):Prop:=
 ∃A c1 u v,e= .returned (.tuple #[.slice A p.1.length c1,u,v,.int .i64 p.2.2.2])/\Reads w' w'.heap.size 1 A p.1.length (p.1.map (.int .i64))/\Pu2 w' w'.heap.size u p.2.1/\St3 w' w'.heap.size v p.2.2.1/\uR w w'
theorem EndPost.one{w w':World}{c:Cfg}{ss:List StpI}{e:Ending}(h:EndPost w c ss e w'):EndAt w (zJh c ss) e w':=by
 rcases h with⟨hc,rfl,hb⟩|⟨hc,hn,rfl,hb⟩|⟨hc,hn,A,n,c1,u,v,rfl,hnm,h1,h2,h3,hb⟩
 ·rw[show zJh c ss=([],[],[],4)from if_pos hc];exact⟨none,0,_,_,rfl,Reads.none_,Pu2.nil _ _,St3.nil _ _,hb⟩
 ·rw[show zJh c ss=([],[],[],1)from(if_neg (by rw[hc];simp)).trans (if_pos hn)];exact⟨none,0,_,_,rfl,Reads.none_,Pu2.nil _ _,St3.nil _ _,hb⟩
 ·rw[show zJh c ss=_ from(if_neg (by rw[hc];simp)).trans (if_neg (by omega))];have hl:(resP c (zAh c ss (WS.new c)).2).length=n:=by unfold resP;rw[qQ,List.length_range,hnm]
  refine⟨A,c1,u,v,by dsimp only;rw[hl],?_,h2,h3,hb⟩;dsimp only;rw[hl];exact h1
theorem yEw(c:Cfg)(ss:List StpI):(zJh c ss).1.length<=1000/\((zJh c ss).2.1.length<=1000/\∀p∈(zJh c ss).2.1,p.length<=1000)/\(zJh c ss).2.2.1.length<=1000/\∀p∈(zJh c ss).2.2.1,p.length<=1000/\∀r∈p,r.length<=1000:=by
 have nil:∀z:Int,([]:List Int).length<=1000/\(([]:List (List PurD)).length<=1000/\∀p∈([]:List (List PurD)),p.length<=1000)/\([]:List (List (List Ent))).length<=1000/\∀p∈([]:List (List (List Ent))),p.length<=1000/\∀r∈p,r.length<=1000:=
  λz=>⟨qL _,⟨qL _,λ_ h=>by cases h⟩,qL _,λ_ h=>by cases h⟩
 unfold zJh;by_cases hc:bG c=false
 ·rw[if_pos hc];exact nil 0
 rw[if_neg hc];by_cases hn:300<ss.length
 ·rw[if_pos hn];exact nil 0
 rw[if_neg hn];have hcf:bG c=true:=by simpa using hc
 obtain⟨⟨_,hn1,hn8⟩,hln,_,⟨hm1,hm3⟩,_⟩:=bK hcf;have hok:(zAh c ss (WS.new c)).2.ok c (0+ss.length):=zLd hcf ss (WS.new c) 0 (zLh hcf);unfold resP zUa zOk zFj;dsimp only;refine⟨by rw[qQ,List.length_range];omega,⟨by rw[qQ,List.length_range];omega,λp hp=> ?_⟩,by rw[qQ,List.length_range];omega,λp hp=> ?_⟩
 ·obtain⟨i,_,rfl⟩:=jC.1 hp;rw[qQ,List.length_range];omega
 ·obtain⟨i,_,rfl⟩:=jC.1 hp;refine⟨by rw[(hok.st i).1];omega,λr hr=> ?_⟩;have:=(gX ((hok.st i).2 r hr)).2.2.1;omega
section
variable {w:World}{c:Cfg}
theorem zWb(c:Cfg)(A:Option Addr)(n cc:Nat)(ss:List StpI)(w:World)(hc:c.ok w w.heap.size)(hl:ss.length=n)(hm:n<=maxLen)(hr:Reads w w.heap.size 8 A n (ss.flatMap StpI.cells))(hwf:∀s∈ss,zLr s)(hT:OrdT w)(hg:0<w.heap.size):Calls prog 4 #[c.val,.slice A n cc] w λe w'=>e= .returned (.bool true)/\uR w w':=by
 obtain⟨cb,hcb⟩:=kB w.heap.size;obtain⟨wx,hwx⟩:=kB (w.alloc (.cells c.cells.toArray 24));have hbx:=uH hwx;have kc:Blk wx cb 24 c.cells.toArray:=by rw[hwx,hcb];exact Blk.new _ _ _
 obtain⟨HP,HQ⟩:=uI ((zYh A n cc ss w.heap.size hl hm (hr.below hbx) hwf (hc.below hbx) hbx.size (λj hj=>(hbx.cell (p:=⟨_,j,none⟩) hg).trans (hT j hj)) (jQ hg hbx.size)).mono λ_ _ h=>h.one) (λW (hW:uR w W)=>(yBg A n cc ss w.heap.size hl hm (hr.below hW) hwf (hc.below hW) hW.size).mono λ_ _ h=>h.one);have hsm:=yEw c ss;generalize zJh c ss=pp at HP HQ hsm;obtain⟨zs,P,Q,z⟩:=pp;have d0:wx.cell? ⟨cb,0,none⟩=some (.int .i64 c.br):=kc.cell 0;have d1:wx.cell? ⟨cb,1,none⟩=some (.slice c.la.A c.la.n c.la.c):=kc.cell 1;have d2:wx.cell? ⟨cb,2,none⟩=some (.int .i64 c.tk):=kc.cell 2;have d3:wx.cell? ⟨cb,3,none⟩=some (.slice c.mi.A c.mi.n c.mi.c):=kc.cell 3;have d4:wx.cell? ⟨cb,4,none⟩=some (.int .i64 c.cap):=kc.cell 4;obtain⟨HBX,HKC,HCB,HWX,HSM⟩:=uL hbx kc hcb hwx hsm;unfold Cfg.val at HP HQ⊢;clear hbx kc hcb hwx hl hr hwf hT hc hg hm hsm;go_enter func4,ntmps4;go_upto_region 1 with fail;rw[zRc c,<-HWX.s,<-HCB.s];go_wp2_with fail;refine HP.s.mono ?_;rintro _ w2 ⟨A1,c1,u1,v1,rfl,h1,h2,h3,hb⟩;have hx2:=HBX.s.trans (hb.mono HBX.s.size);have kc2:=HKC.s.below hb HKC.s.lt;have e0:w2.cell? ⟨cb,0,none⟩=some (.int .i64 c.br):=kc2.cell 0;have e1:w2.cell? ⟨cb,1,none⟩=some (.slice c.la.A c.la.n c.la.c):=kc2.cell 1;have e2:w2.cell? ⟨cb,2,none⟩=some (.int .i64 c.tk):=kc2.cell 2;have e3:w2.cell? ⟨cb,3,none⟩=some (.slice c.mi.A c.mi.n c.mi.c):=kc2.cell 3;have e4:w2.cell? ⟨cb,4,none⟩=some (.int .i64 c.cap):=kc2.cell 4;obtain⟨HX2,H1,H2,H3⟩:=uK hx2 h1 h2 h3;dsimp only;clear hx2 kc2 hb h1 h2 h3 d0 d1 d2 d3 d4;go_wp2_with fail;refine(HQ.s w2 HX2.s).mono ?_;rintro _ w3 ⟨A2,c2,u2,v2,rfl,h1,h2,h3,hb⟩;dsimp only at H1 H2 H3 h1 h2 h3⊢;have hx3:=HX2.s.trans (hb.mono HX2.s.size);obtain⟨HSI,HSS⟩:=uI (zXi A1 A2 zs.length c1 c2 zs w3.heap.size w3 rfl (by have:=HSM.s.1;omega) ((H1.s.below hb).more hb.size) h1) (λW (hW:uR w3 W)=>zTl v1 v2 Q w3.heap.size W (((H3.s.below hb).more hb.size).below hW) (h3.below hW) hW.size HSM.s.2.2.1 HSM.s.2.2.2);obtain⟨pA,pc,rs,rfl,r1,r2,r3⟩:=(H2.s.below hb).more hb.size;obtain⟨pA',pc',rs',rfl,r1',r2',r3'⟩:=h2;obtain⟨m,hm⟩:=kB P.length;have hl1:rs.length=m:=by rw[hm,<-r3,qQ]
 have hl2:rs'.length=m:=by rw[hm,<-r3',qQ]
 have hm1:m<=1000:=by rw[hm];exact HSM.s.2.1.1
 rw[hl1]at r1⊢;rw[hl2]at r1'⊢;obtain⟨HR,HR',HT,HT',HP1,HP2,HX3⟩:=uN r1 r1' r2 r2' r3 r3' hx3;have HPS:=uT HSM.s.2.1.2;clear h1 h3 hb hx3 r1 r2 r3 r1' r2' r3' hl1 hl2 hm e0 e1 e2 e3 e4 H1 H2 H3;generalize zs.length=zn at HSI⊢;go_wp2_with fail;refine HSI.s.mono ?_;rintro _ w4 ⟨rfl,nq,hw4⟩;have HB4:=uT (show uR w3 w4 by rw[<-hw4];exact below_drewN (qC _ _) nq);clear hw4;go_wp2_with fail;refine(HSS.s w4 HB4.s).mono ?_;rintro _ w5 ⟨rfl,hb5⟩;have hz5:=HB4.s.trans (hb5.mono HB4.s.size);clear hb5 HB4;go_wp2_with fail
 go_loopw [13] (λi wr=>∃k:Nat,k<=m/\i= .int .i64 k/\uR w3 wr) (λi _=>m-(intOf i).toNat)
 case atStart=>exact⟨0,qL _,rfl,hz5⟩
 case round=>
  obtain⟨k,hk,rfl,hz⟩:=hrel;by_cases hlt:k<m
  ·obtain⟨b,o,t,rfl,hbl,htk,hc⟩:=zCv PuR.val (HR.s.below hz) hlt;obtain⟨b',o',t',rfl,hbl',htk',hc'⟩:=zCv PuR.val (HR'.s.below hz) hlt;have hes:t.ps=t'.ps:=by
    have h1:(rs.map PuR.ps)[k]? =some t.ps:=by simp[htk]
    have h2:(rs'.map PuR.ps)[k]? =some t'.ps:=by simp[htk']
    rw[HP1.s]at h1;rw[HP2.s,h1]at h2;injection h2
   have hq3:t.ps.length<=1000:=HPS.s _ (by rw[<-HP1.s];exact jC.2 ⟨t,qB htk,rfl⟩);have hrt:=HT.s t (qB htk);have hrt':=HT'.s t' (qB htk');obtain⟨ps,tA,tc⟩:=t;obtain⟨ps',tA',tc'⟩:=t';unfold PuR.val at hc hc';dsimp only at hc hc' hes hrt hrt' hq3;subst hes;obtain⟨q,hq⟩:=kB ps.length;rw[<-hq]at hc hc' hrt hrt' hq3;obtain⟨HQL,HT1,HT2⟩:=uJ hq.symm hrt hrt';have hkm:(k:Int)<(m:Int):=by omega
   have hc1:∀W,uR w3 W->W.cell? ⟨b,o+k,none⟩=some (.slice tA q tc):=λW hW=>(hW.cell (p:=⟨b,o+k,none⟩) hbl).trans ((hz.cell (p:=⟨b,o+k,none⟩) hbl).symm.trans hc)
   have hc2:∀W,uR w3 W->W.cell? ⟨b',o'+k,none⟩=some (.slice tA' q tc'):=λW hW=>(hW.cell (p:=⟨b',o'+k,none⟩) hbl').trans ((hz.cell (p:=⟨b',o'+k,none⟩) hbl').symm.trans hc')
   have g1:=hc1 wr hz;have g2:=hc2 wr hz;obtain⟨HC1,HC2⟩:=uI hc1 hc2;clear htk htk' hrt hrt' hq hc1 hc2 hc hc' hz5;go_wp2_with fail;go_quiet (fail);have hz6:=below_drewN hz nq;go_wp2_with fail;clear g1 g2 hz
   go_loopw [14] (λi wr=>∃l:Nat,l<=q/\i= .int .i64 l/\uR w3 wr) (λi _=>q-(intOf i).toNat)
   case atStart=>exact⟨0,qL _,rfl,hz6⟩
   case round=>
    obtain⟨l,hl,rfl,hzl⟩:=hrel;have g1:=HC1.s _ hzl;have g2:=HC2.s _ hzl;by_cases hlq:l<q
    ·obtain⟨d,p,x,rfl,hdl,hx,hd⟩:=fB PurD.cells_len (by omega) (HT1.s.below hzl) hlq HQL.s;obtain⟨d',p',x',rfl,hdl',hx',hd'⟩:=fB PurD.cells_len (by omega) (HT2.s.below hzl) hlq HQL.s;obtain rfl:x=x':=by rw[hx]at hx';injection hx'
     have c0:=hd 0 _ rfl;have c1:=hd 1 _ rfl;have c2:=hd 2 _ rfl;have c3:=hd 3 _ rfl;have c4:=hd 4 _ rfl;have c5:=hd 5 _ rfl;have d0:=hd' 0 _ rfl;have d1:=hd' 1 _ rfl;have d2:=hd' 2 _ rfl;have d3:=hd' 3 _ rfl;have d4:=hd' 4 _ rfl;have d5:=hd' 5 _ rfl;simp only[Nat.add_zero]at c0 d0;have hlq':(l:Int)<(q:Int):=by omega
     clear hx hx' hdl hdl' hd hd';go_wp2_with fail;go_quiet (fail);have hz7:=below_drewN hzl nq;go_wp2_with fail;go_roundw
     case rel=>exact⟨l+1,by omega,by go_num,hz7⟩
     case measure=>simp[intOf];omega
    ·obtain rfl:l=q:=by omega
     go_wp2_with fail;go_roundw
     case rel=>exact⟨k+1,by omega,by go_num,hzl⟩
     case measure=>simp[intOf];omega
  ·obtain rfl:k=m:=by omega
   go_wp2_with fail;go_ret;exact⟨rfl,HX3.s.trans (hz.mono HX3.s.size)⟩
end
end Go.Proofs.YtbolcebmbpepdaaGreatDoor
