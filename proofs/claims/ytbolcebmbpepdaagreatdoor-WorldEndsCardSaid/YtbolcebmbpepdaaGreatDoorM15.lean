/- Contracts. Conditions: those each states. -/
import Derived.Test.YtbolcebmbpepdaaGreatDoorM14
namespace Go.Proofs.YtbolcebmbpepdaaGreatDoor
set_option maxRecDepth 100000
set_option maxHeartbeats 8000000
set_option linter.all false
open Go.RowKit Tryz
theorem zRo(rows:List (List Ent))(is:List Nat):(bH (dS rows is)).length=272*is.length:=by rw[zFc,zGk];simp;omega
theorem zHx(f:Int×Int)(z:Nat)(hz:z<f.1.toNat):(cT f)[z]? =some (f.2.toNat/2^(f.1.toNat-1-z)%2):=by simp[cT,hz]
theorem and1_val(v kk:Nat)(hv:v<4611686018427387904):bits .and .i64 ((v:Int)/2^kk) 1=((v/2^kk%2:Nat):Int):=by
 have e:((v:Int)/2^kk)=((v/2^kk:Nat):Int):=by simp
 have hd:v/2^kk<=v:=Nat.div_le_self _ _;rw[e,show(1:Int)=((1:Nat):Int)from rfl,zBz _ _ (by omega) (by omega),Nat.and_one_is_mod]
theorem yAw(bs:List Nat)(i k:Nat)(h:bs.length<=i):dP bs i k=0:=by
 induction k with
 |zero=>rfl
 |succ k ih=>rw[dP,ih,qG,qU (by omega)];rfl
theorem zZq(bs:List Nat)(m:Nat)(h:bs.length=8*m):bytesOf bs (m+1)=bytesOf bs m++[0]:=by
 unfold bytesOf;rw[List.range_succ,jA]
 congr 1
 simp only[qJ,qO];unfold byteOf;rw[yAw bs _ 8 (by omega)];rfl
theorem zKl(bs:List Nat)(n i:Nat)(h:i<n):(bytesOf bs n)[i]? =some ((byteOf bs i:Nat):Int):=by simp[bytesOf,h]
theorem zUx{w:World}{base n:Nat}{e:TypeId}{v:Value}{xs:List Value}(h:w.ownsRow base e 1 v n xs)(hn:0<n):∃g cap cs,v= .slice (some ⟨g,0,none⟩) n cap/\base<=g/\n<=cap/\Blk w g e cs/\∀(j:Nat) (u:Value),xs[j]? =some u->cs[j]? =some u:=by
 rcases h.2 with⟨h1,h2⟩|⟨g,cap,cur,h1,hb,hh,hnc,hcm,hs,ht⟩
 ·omega
 ·refine⟨g,cap,cur,h1,hb,hnc,hh,λj u hj=> ?_⟩;rw[<-ht,List.getElem?_take]at hj
  split at hj
  ·simpa using hj
  ·cases hj
theorem own_curU{w:World}{base n g c:Nat}{e:TypeId}{xs:List Value}(h:w.ownsRow base e 1 (.slice (some ⟨g,0,none⟩) (n+1) c) (n+1) xs):∃cs,Blk w g e cs/\True:=by obtain⟨g',cap,cs,h1,_,_,h2,_⟩:=zUx h (by omega);injection h1 with h1;injection h1 with h1;injection h1 with h1;subst h1;exact⟨cs,h2,trivial⟩
theorem yFz{l:List Ent}(h:∀e∈l,zDb e)(x:Int):(zCq l x).length<=5/\∀f∈zCq l x,(1<=f.1/\f.1<=34)/\(0<=f.2/\f.2<=1048576):=by
 unfold zCq;cases hk:zBs l x with
 |none=>simp
 |some e=>
  obtain⟨h1,h2,h3⟩:=h e (List.mem_of_find?_eq_some hk);have hg:zCu e<=1:=by unfold zCu;split<;>omega
  refine⟨by simp,λf hf=> ?_⟩;simp only[jD,List.not_mem_nil,or_false]at hf;rcases hf with rfl|rfl|rfl|rfl|rfl
  all_goals dsimp only;omega
theorem zSg{l:List Ent}(h:∀e∈l,zDb e)(x:Nat):(bH (zCq l x)).length=34:=by rw[<-zRs h,gP];rfl
theorem zRz(x y:List Nat):gU (x++y)=gU x++gU y:=by unfold gU;rw[jA]
theorem zTp(c:Cfg)(a b:Nat)(t:TabR)(B:Nat)(w:World)(hc:c.ok w B)(ht:TabOk w B t)(hB:B<=w.heap.size)(hcf:bG c=true)(hab:cG c a=true/\cG c b=true)(hlen:t.es.length=c.la.zs.length):Calls prog 70 #[c.val,.int .i64 a,.int .i64 b,t.val] w (zCa (bT c a b t.es) w):=by
 obtain⟨b1,b2,b3,b4⟩:=zFq hcf;have ha8:a<=8:=by have:=hab.1;unfold cG at this;simp at this;omega
 have hb8:b<=8:=by have:=hab.2;unfold cG at this;simp at this;omega
 have hab':=hab;unfold cG at hab';simp only[qT,decide_eq_true_eq]at hab';have HRP:=uT (show bT c a b t.es=if t.es.any (λl=> !bU l)=true then([],4)else if(bM a b c.la.zs 0).any (λi=>dZ (t.es.getD i []))=true then([],12)else(bytesOf (bH (dS t.es (bM a b c.la.zs 0))) (34*(bM a b c.la.zs 0).length),0)by unfold bT;rw[if_neg (by rw[hcf];simp),if_neg (by rw[hab.1,hab.2];simp),if_neg (by rw[hlen];simp),qR,qR])
 have HMY:=uT (λW (hW:uR w W)=>zBr c B W (hc.below (hW.mono hB)) (qN hB hW.size));rw[hcf]at HMY;have hll:=hc.1.1;have hrl:t.rs.length=c.la.n:=by rw[<-hll,<-hlen];unfold TabR.es;rw[qQ]
 obtain⟨HRT,HLR,HLL,HZ⟩:=uK (ht.more hB) (hc.1.2.2.2.more hB) hll b4;have hln4:c.la.n<=4:=by omega
 obtain⟨w1,hw1⟩:=kB (w.alloc (.cells c.cells.toArray 24));have hb1:=uH hw1;obtain⟨p,hp⟩:=kB w.heap.size;have kb:Blk w1 p 24 c.cells.toArray:=by rw[hw1,hp];exact Blk.new w _ _
 obtain⟨HB1,HW1,HP⟩:=uJ hb1 hw1 hp;have k0:=λ(W:World) (hz:uR w1 W)=>(kb.below hz kb.lt).cell 0
 have k1:=λ(W:World) (hz:uR w1 W)=>(kb.below hz kb.lt).cell 1
 have k2:=λ(W:World) (hz:uR w1 W)=>(kb.below hz kb.lt).cell 2
 have k3:=λ(W:World) (hz:uR w1 W)=>(kb.below hz kb.lt).cell 3
 have k4:=λ(W:World) (hz:uR w1 W)=>(kb.below hz kb.lt).cell 4
 have hz1:uR w1 w1:=qC _ _;obtain⟨iI,hiI,hzI,hsI,hyI⟩:∃i,prog.info? 3=some i/\i.zero=some (.int .i64 0)/\i.size=1/\i.bytes=8:=gB (by kernel_rfl);obtain⟨iU,hiU,hzU,hsU,hyU⟩:∃i,prog.info? 5=some i/\i.zero=some (.int .u8 0)/\i.size=1/\i.bytes=1:=gB (by kernel_rfl);clear hb1 kb hp hw1 hc ht hcf hlen b1 b2 b3 b4 hab hll;obtain⟨rs,tA,tc⟩:=t;obtain⟨br,⟨lA,ln,lc,ls⟩,tk,⟨mA,mn,mc,ms⟩,cap⟩:=c;unfold Cfg.cells at HW1 k0 k1 k2 k3 k4;unfold Cfg.val at HMY⊢;unfold TabR.val;dsimp only at HMY HW1 HLR HLL HZ k0 k1 k2 k3 k4 hrl hln4 hab'⊢;simp only[jH,List.getElem?_cons_zero,jP]at k0 k1 k2 k3 k4;obtain⟨⟨_,g1⟩,⟨_,g2⟩⟩:=hab';have g3:decide (br<=(a:Int))=false:=by simp;exact g1
 have g4:decide (br<=(b:Int))=false:=by simp;exact g2
 have g5:decide ((a:Int)<0)=false:=by simp
 have g6:decide ((b:Int)<0)=false:=by simp
 rw[hrl];have HRL:=uT hrl;clear hrl g1 g2;go_enter func70,ntmps70;go_upto_region 1 with fail;rw[<-HP.s,<-HW1.s];go_wp2_with fail;refine(HMY.s w1 HB1.s).mono ?_;rintro _ w2 ⟨rfl,hb2⟩;have hz2:uR w1 w2:=hb2;have hy2:uR w w2:=HB1.s.trans (hb2.mono HB1.s.size);clear hb2;go_wp2_with fail
 go_loopw [53] (λj W=>∃(k:Nat),k<=ln/\j= .int .i64 k/\uS ((rs.take k).all (λr=>bU r.es)=true)/\uR w1 W/\uR w W) (λj _=>ln-(intOf j).toNat)
 case atStart=>exact⟨0,qL _,rfl,uT rfl,hz2,hy2⟩
 case round=>
  obtain⟨k,hk,rfl,HMA,hx,hz⟩:=hrel;by_cases hlt:k<ln
  ·obtain⟨bt,ot,r,hbt,_,hr,hcr⟩:=zCv EnR.val (HRT.s.below hz).rd.1 (by rw[HRL.s];exact hlt);dsimp only at hbt hr hcr;subst hbt;have hrr:=(HRT.s.rd.2 r (qB hr));have hrm:=HRT.s.each r (qB hr);obtain⟨HEM,HTK⟩:=uI (λ(W:World) (hW:uR w W)=>zTo r.A r.es.length r.c r.es w.heap.size W rfl hrm (hrr.below hW) hW.size) (dB rs k r hr);have HBM:=uT (λ(h:bU r.es=false)=>show(TabR.es ⟨rs,some ⟨bt,ot,none⟩,tc⟩).any (λl=> !bU l)=true by unfold TabR.es;rw[List.any_map,List.any_eq_true];exact⟨r,qB hr,by simp[h]⟩)
   unfold EnR.val at hcr;have hkl:(k:Int)<(ln:Int):=by omega
   obtain⟨es,rA,rc⟩:=r;dsimp only at hcr HEM HBM;generalize es.length=n at*;clear hr hrr hrm;cases hm:bU es
   ·rw[hm]at HEM;have HR4:=uT (HBM.s hm);clear hm;go_wp2_with fail;refine(HEM.s _ hz).mono ?_;rintro _ w3 ⟨rfl,hb3⟩;have HB3:=uT (hz.trans (hb3.mono hz.size));clear hb3;go_wp2_with fail;go_ret2;rw[HRP.s,if_pos HR4.s];exact⟨_,rfl,qH _ _ _ _,HB3.s⟩
   ·rw[hm]at HEM;have HMA2:=uT (show(rs.take (k+1)).all (λr=>bU r.es)=true by rw[HTK.s,List.all_append,HMA.s];simp[hm])
    clear hm;go_wp2_with fail;refine(HEM.s _ hz).mono ?_;rintro _ w3 ⟨rfl,hb3⟩;have hx3:=hx.trans (hb3.mono hx.size);have HB3:=uT (hz.trans (hb3.mono hz.size));clear hb3;go_wp2_with fail;go_roundw
    case rel=>exact⟨k+1,by omega,by go_num,HMA2,hx3,HB3.s⟩
    case measure=>simp[intOf];omega
  ·obtain rfl:k=ln:=by omega
   have hma:=HMA.s;rw[qS (by rw[HRL.s];exact qA _)]at hma;have HMAY:=uT (λr (hr:r∈rs)=>show bU r.es=true from uE.1 hma r hr);have hnm:(TabR.es ⟨rs,tA,tc⟩).any (λl=> !bU l)=false:=by unfold TabR.es;rw[List.any_map,List.any_eq_false];intro r hr;simp[uE.1 hma r hr]
   have HRP2:=uT (show bT ⟨br,⟨lA,k,lc,ls⟩,tk,⟨mA,mn,mc,ms⟩,cap⟩ a b (TabR.es ⟨rs,tA,tc⟩)=if(bM a b ls 0).any (λi=>dZ ((rs.map EnR.es).getD i []))=true then([],12)else(bytesOf (bH (dS (rs.map EnR.es) (bM a b ls 0))) (34*(bM a b ls 0).length),0)from by have h:=HRP.s;rw[if_neg (by rw[hnm];simp)]at h;exact h);clear hma hnm HMA HRP;go_wp2_with fail
   go_loopw [12,64] (λo j W=>∃(i L:Nat),i<=k/\j= .int .i64 i/\L<=272*i/\uS ((bH (dS (rs.map EnR.es) (bM a b (ls.take i) 0))).length=L)/\uS (W.ownsRow w1.heap.size 3 1 o L (gU (bH (dS (rs.map EnR.es) (bM a b (ls.take i) 0)))))/\uS ((bM a b (ls.take i) 0).any (λi=>dZ ((rs.map EnR.es).getD i []))=false)/\uR w1 W/\uR w W) (λ_ j _=>k-(intOf j).toNat)
   case atStart=>exact⟨0,0,qL _,rfl,by omega,uT rfl,qH _ _ _ _,uT rfl,hx,hz⟩
   case round=>
    obtain⟨i,L,hi,rfl,hL,HDL,HD,HNB,hx2,hz2'⟩:=hrel;by_cases hik:i<k
    ·obtain⟨bl,ol,z,rfl,hbl,hzl,hcl⟩:=dQ (HLR.s.below hz2') hik;have hzz:=HZ.s z (qB hzl);obtain⟨z,rfl⟩:=qP hzz.1;have hz255:z<=255:=by omega
     have hlk:(ls.take i).length=i:=by rw[qY,HLL.s];omega
     have HTK:=uT (show bM a b (ls.take (i+1)) 0=bM a b (ls.take i) 0++(if z.testBit a&&z.testBit b then [i]else [])by rw[dB ls i _ hzl,zKa,qR,hlk,Nat.zero_add])
     obtain⟨HI1,HI2⟩:=uI (λW=>zHn z a W hz255 (by omega)) (λW=>zHn z b W hz255 (by omega));have hik':(i:Int)<(k:Int):=by omega
     clear hzz hzl hlk hbl;cases hb1:z.testBit a
     ·rw[hb1]at HI1 HTK;clear hb1;rw[Bool.false_and,if_neg (by simp),jR]at HTK;go_wp2_with fail;refine(HI1.s _).mono ?_;rintro _ _ ⟨rfl,rfl⟩;go_wp2_with fail;go_roundw
      case rel=>exact⟨i+1,L,by omega,by go_num,by omega,uT (by rw[HTK.s];exact HDL.s),uT (by rw[HTK.s];exact HD.s),uT (by rw[HTK.s];exact HNB.s),hx2,hz2'⟩
      case measure=>simp[intOf];omega
     ·rw[hb1]at HI1 HTK;clear hb1;cases hb2:z.testBit b
      ·rw[hb2]at HI2 HTK;clear hb2;rw[Bool.and_false,if_neg (by simp),jR]at HTK;go_wp2_with fail;refine(HI1.s _).mono ?_;rintro _ _ ⟨rfl,rfl⟩;go_wp2_with fail;refine(HI2.s _).mono ?_;rintro _ _ ⟨rfl,rfl⟩;go_wp2_with fail;go_roundw
       case rel=>exact⟨i+1,L,by omega,by go_num,by omega,uT (by rw[HTK.s];exact HDL.s),uT (by rw[HTK.s];exact HD.s),uT (by rw[HTK.s];exact HNB.s),hx2,hz2'⟩
       case measure=>simp[intOf];omega
      ·rw[hb2]at HI2 HTK;clear hb2;rw[Bool.true_and,if_pos rfl]at HTK;obtain⟨bt,ot,r,hbt,hbtl,hr,hcr⟩:=zCv EnR.val (HRT.s.below hz2').rd.1 (by rw[HRL.s];exact hik);dsimp only at hbt hr hcr;subst hbt;have hrr:=(HRT.s.rd.2 r (qB hr));have hrm:=HRT.s.each r (qB hr);have hmr:=HMAY.s r (qB hr);have hgd:(rs.map EnR.es).getD i []=r.es:=by rw[qG,qV,hr];rfl
       have HSN:=uT (zRk (rs.map EnR.es) (bM a b (ls.take i) 0) i);rw[hgd]at HSN;have HAN:=uT (show(bM a b (ls.take (i+1)) 0).any (λi=>dZ ((rs.map EnR.es).getD i []))=dZ r.es by rw[HTK.s,List.any_append,HNB.s];simp only[List.any_cons,List.any_nil,Bool.or_false,Bool.false_or];rw[hgd])
       have HFULL:=uT (show dZ r.es=true->(bM a b ls 0).any (λi=>dZ ((rs.map EnR.es).getD i []))=true from λh=>by
        rw[List.any_eq_true];have hmem:i∈bM a b ls 0:=by have h1:=zHw a b (ls.take (i+1)) (ls.drop (i+1)) 0;rw[jW]at h1;rw[h1,HTK.s];simp
        exact⟨i,hmem,by rw[hgd];exact h⟩)
       obtain⟨hrs,hr8,hre⟩:=zSr hmr;obtain⟨es,rA,rc⟩:=r;unfold EnR.val at hcr;dsimp only at hcr hmr hrr hrm hrs hr8 hre HSN HAN HFULL;have HSF:=uT (λ(W:World) (hW:uR w W) (x:Nat)=>zTa rA es.length rc es x w.heap.size W rfl hrm (hrr.below hW) hW.size);obtain⟨n,hn⟩:=kB es.length;rw[<-hn]at hcr hr8 hrr hrm HSF;obtain⟨HN,HRR,HRE,HMR⟩:=uK hn.symm hrr hre hmr;have g7:∀W,uR w W->W.cell? ⟨bt,ot+i,none⟩=some (.slice rA n rc):=λW hW=>(hW.cell (p:=⟨bt,ot+i,none⟩) hbtl).trans ((hz2'.cell (p:=⟨bt,ot+i,none⟩) hbtl).symm.trans hcr)
       clear hr hrr hrm hmr hgd hrs hre hn hcr;go_wp2_with fail;refine(HI1.s _).mono ?_;rintro _ _ ⟨rfl,rfl⟩;go_wp2_with fail;refine(HI2.s _).mono ?_;rintro _ _ ⟨rfl,rfl⟩;go_wp2_with fail
       rename World=>W0
       go_loopw [84] (λj W=>∃(m:Nat),m<=n/\j= .int .i64 m/\uS ((es.take m).any (λe=>decide (8<=e.key)||decide (255<e.value))=false)/\uS (uR W0 W)/\uR w1 W/\uR w W) (λj _=>n-(intOf j).toNat)
       case atStart=>exact⟨0,qL _,rfl,uT rfl,uT (qC _ _),hx2,hz2'⟩
       case round=>
        obtain⟨m,hm,rfl,HNM,HBW,hx3,hz3⟩:=hrel;by_cases hmn:m<n
        ·obtain⟨be,oe,e,rfl,_,he,hce⟩:=fB cN (by omega) (HRR.s.below hz3) hmn HN.s;have z0:wr.cell? ⟨be,oe+m*5,none⟩=some (.int .i64 e.key):=hce 0 _ rfl;have z1:wr.cell? ⟨be,oe+m*5+1,none⟩=some (.int .i64 e.value):=hce 1 _ rfl;have z2:wr.cell? ⟨be,oe+m*5+2,none⟩=some (.int .i64 e.time):=hce 2 _ rfl;have z3:wr.cell? ⟨be,oe+m*5+3,none⟩=some (.int .i64 e.who):=hce 3 _ rfl;have z4:wr.cell? ⟨be,oe+m*5+4,none⟩=some (.bool e.gone):=hce 4 _ rfl;have HTM:=uT (dB es m e he);have HBE:=uT (λ(h:(decide (8<=e.key)||decide (255<e.value))=true)=>show dZ es=true by unfold dZ;rw[List.any_eq_true];exact⟨e,qB he,h⟩)
         have hmn':(m:Int)<(n:Int):=by omega
         obtain⟨HZA,HXA,HWA⟩:=uJ (hz3.alloc hz3.size (.cells #[.int .i64 e.key,.int .i64 e.value,.int .i64 e.time,.int .i64 e.who,.bool e.gone] 125)) (hx3.alloc hx3.size (.cells #[.int .i64 e.key,.int .i64 e.value,.int .i64 e.time,.int .i64 e.who,.bool e.gone] 125)) (HBW.s.alloc HBW.s.size (.cells #[.int .i64 e.key,.int .i64 e.value,.int .i64 e.time,.int .i64 e.who,.bool e.gone] 125));clear hce he;obtain⟨ek,ev,et,ew,eg⟩:=e;dsimp only at z0 z1 z2 z3 z4 HTM HBE HZA HXA HWA;by_cases d1:7<ek
         ·have HR12:=uT (HFULL.s (HBE.s (by simp;omega)));go_wp2_with fail;go_ret2;rw[HRP2.s,if_pos HR12.s];exact⟨_,rfl,qH _ _ _ _,HZA.s⟩
         by_cases d2:255<ev
         ·have HR12:=uT (HFULL.s (HBE.s (by simp;omega)));go_wp2_with fail;go_ret2;rw[HRP2.s,if_pos HR12.s];exact⟨_,rfl,qH _ _ _ _,HZA.s⟩
         have HNM2:=uT (show(es.take (m+1)).any (λe=>decide (8<=e.key)||decide (255<e.value))=false by rw[HTM.s,List.any_append,HNM.s];simp;omega)
         go_wp2_with fail;go_roundw
         case rel=>exact⟨m+1,by omega,by go_num,HNM2,HWA,HXA.s,HZA.s⟩
         case measure=>simp[intOf];omega
        ·obtain rfl:m=n:=by omega
         have hnb:dZ es=false:=by have h:=HNM.s;rw[qS (by rw[HN.s];exact qA _)]at h;exact h
         obtain⟨HSO,HNB3,HD3⟩:=uJ (λe he=>(zUi HMR.s hnb e he).1) (show(bM a b (ls.take (i+1)) 0).any (λi=>dZ ((rs.map EnR.es).getD i []))=false by rw[HAN.s];exact hnb) (bI HD.s HBW.s);obtain⟨D,hD⟩:=kB (bH (dS (rs.map EnR.es) (bM a b (ls.take i) 0)));rw[<-hD]at HD3 HDL;have HDD:=uT hD;clear hnb HNM HBW hD HRE HFULL;go_wp2_with fail
         go_loopw [12,17] (λo j W=>∃(x:Nat),x<=8/\j= .int .i64 x/\uS (W.ownsRow w1.heap.size 3 1 o (L+34*x) (gU (D++bH ((slotsOf es).take x))))/\uR w1 W/\uR w W) (λ_ j _=>8-(intOf j).toNat)
         case atStart=>exact⟨0,qL _,rfl,uT (by rw[jE,show bH []=[]from rfl,jR];exact HD3.s),hx3,hz3⟩
         case round=>
          obtain⟨x,hx8,rfl,HDx,hx4,hz4⟩:=hrel;by_cases hxl:x<8
          ·obtain⟨hfl,hfo⟩:=yFz HSO.s ((x:Nat):Int);have hfb:=zSg HSO.s x;obtain⟨HSB,HSFx⟩:=uI (yEh HSO.s x hxl) (HSF.s wr hz4 x);obtain⟨F,hF⟩:=kB (zCq es ((x:Nat):Int));rw[<-hF]at HSFx hfl hfo HSB hfb;obtain⟨fn,hfn⟩:=kB F.length;rw[<-hfn]at HSFx hfl;obtain⟨HFN,HFO,HFB⟩:=uJ hfn.symm hfo hfb;have hx8':(x:Int)<8:=by omega
           clear hF hfn hfo hfb;go_wp2_with fail;refine HSFx.s.mono ?_;rintro _ w5 ⟨g,cg,rfl,kg,hgl,hb5⟩;have hx5:uR w1 w5:=hx4.trans (hb5.mono hx4.size);have hz5:uR w w5:=hz4.trans (hb5.mono hz4.size);obtain⟨HKG,HD5⟩:=uI kg (bI HDx.s hb5);obtain⟨E,hE⟩:=kB (D++bH ((slotsOf es).take x));rw[<-hE]at HD5;have HEE:=uT hE;obtain⟨M,hM⟩:=kB (L+34*x);rw[<-hM]at HD5;have hMb:M<=2000:=by omega
           have HMM:=uT hM;clear kg hb5 hE hM hgl;go_wp2_with fail
           go_loopw [12,108] (λo j W=>∃(y N:Nat),y<=fn/\j= .int .i64 y/\N<=M+34*y/\uS ((bH (F.take y)).length+M=N)/\uS (W.ownsRow w1.heap.size 3 1 o N (gU (E++bH (F.take y))))/\uS (Blk W g 179 (F.flatMap gL).toArray)/\uR w1 W/\uR w W) (λ_ j _=>fn-(intOf j).toNat)
           case atStart=>exact⟨0,M,qL _,rfl,by omega,uT (by rw[jE];simp[bH]),uT (by rw[jE,show bH []=[]from rfl,jR];exact HD5.s),HKG,hx5,hz5⟩
           case round=>
            obtain⟨y,N,hy,rfl,hN,HNL,HDy,HKy,hx6,hz6⟩:=hrel;by_cases hyl:y<fn
            ·obtain⟨bf,of,f,hbf,_,hf,hcf⟩:=fB zDd (by omega) (zUy HKy.s 2 fn (by rw[zEp zDd,HFN.s])) hyl HFN.s;have q0:wr.cell? ⟨bf,of+y*2,none⟩=some (.int .i64 f.1):=hcf 0 _ rfl;have q1:wr.cell? ⟨bf,of+y*2+1,none⟩=some (.int .i64 f.2):=hcf 1 _ rfl;injection hbf with hbf;injection hbf with hbf1 hbf2;subst hbf1 hbf2;simp only[Nat.zero_add]at q0 q1;have hfo:=HFO.s f (qB hf);obtain⟨HTF,HGT,HFL⟩:=uJ (show bH (F.take (y+1))=bH (F.take y)++cT f by rw[dB F y f hf,zGz,zPf]) (λz hz=>zHx f z hz) (gP f);obtain⟨wd,v⟩:=f;dsimp only at q0 q1 hfo HGT HFL;obtain⟨wd,rfl⟩:=qP (show 0<=wd by omega);obtain⟨v,rfl⟩:=qP hfo.2.1;obtain⟨⟨f1,f2⟩,⟨_,f3⟩⟩:=hfo;have hwd1:1<=wd:=by omega
             have hwd2:wd<=34:=by omega
             have hv:v<=1048576:=by omega
             have hyl':(y:Int)<(fn:Int):=by omega
             simp only[qR]at HGT HFL;generalize cT ((wd:Int),(v:Int))=FB at*;obtain⟨w7,hw7⟩:=kB (wr.alloc (.cells #[.int .i64 wd,.int .i64 v] 179));have hb7:=uH hw7;obtain⟨pf,hpf⟩:=kB wr.heap.size;have kf:Blk w7 pf 179 #[.int .i64 wd,.int .i64 v]:=by rw[hw7,hpf];exact Blk.new _ _ _
             obtain⟨HKF,HK7,HD7⟩:=uJ kf (HKy.s.below hb7 HKy.s.lt) (bI HDy.s hb7);have hx7:uR w1 w7:=hx6.trans (hb7.mono hx6.size);have hz7:uR w w7:=hz6.trans (hb7.mono hz6.size);obtain⟨G,hG⟩:=kB (E++bH (F.take y));rw[<-hG]at HD7;obtain⟨HGG,HW7,HPF⟩:=uJ hG hw7 hpf;have kf0:=kf.cell 0;have kf1:=kf.cell 1;simp only[jH,List.getElem?_cons_zero,jP]at kf0 kf1;clear hcf hf hw7 hb7 kf hG hpf;go_upto_region 30 with fail;rw[<-HW7.s,<-HPF.s];clear q0 q1;go_wp2_with fail
             go_loopw [12,20] (λo j W=>∃(u:Nat),u<=wd/\j= .int .i64 ((wd:Int)-1-u)/\uS (W.ownsRow w1.heap.size 3 1 o (N+u) (gU (G++FB.take u)))/\uS (Blk W g 179 (F.flatMap gL).toArray)/\uS (Blk W pf 179 #[.int .i64 wd,.int .i64 v])/\uR w1 W/\uR w W) (λ_ j _=>((intOf j)+1).toNat)
             case atStart=>exact⟨0,qL _,by simp,uT (by rw[jE,jR];exact HD7.s),HK7,HKF,hx7,hz7⟩
             case round=>
              obtain⟨u,hu,rfl,HDu,HKu,HPu,hx8,hz8⟩:=hrel;by_cases hul:u<wd
              ·obtain⟨kk,hkk⟩:=kB (wd-1-u);have hjk:(wd:Int)-1-u=(kk:Int):=by omega
               rw[hjk];have HTB:=uT (dB FB u _ (HGT.s u hul));rw[<-hkk]at HTB;have hav:=and1_val v kk (by omega);have HKK:=uT (show(kk:Int)-1=(wd:Int)-1-((u+1:Nat):Int)by omega);have hkb:kk<=40:=by omega
               have qf0:=HPu.s.cell 0;have qf1:=HPu.s.cell 1;simp only[jH,List.getElem?_cons_zero,jP]at qf0 qf1;obtain⟨AO,cO,rfl,_⟩:=bE HDu.s;have hmq:(N+u+1)*8<=140737488355328:=by omega
               have hs8:=hx8.size;obtain⟨bv,hbv⟩:=kB (v/2^kk%2);rw[<-hbv]at hav HTB;clear hkk hjk hbv kf0 kf1;go_wp2_with(first
                |(at_builtin;(refine bF _ rfl (.tmp 119) (.tmp 125) _ rfl w1.heap.size 3 iI _ 1 8 underlying22 hiI hzI hsI hyI rfl (by omega) (by omega) _ _ _ HDu.s rfl _ 1 _ rfl rfl rfl (by simp[Value.oneCell']) hmq hs8 ?_);intro g9 cap9 w9 hg9 hown9 hbel9 hgr9 hat9;have HX9:=uT (hbel9 w1.heap.size w1 (qA _) hx8);have HB9:=uT (HB1.s.trans (HX9.s.mono HB1.s.size));have HK9:=uT (HKu.s.grown hgr9 (zEa HDu.s HKu.s (by decide)));have HP9:=uT (HPu.s.grown hgr9 (zEa HDu.s HPu.s (by decide)));have HO9:=uT hown9;clear hg9 hown9 hbel9 hgr9 hat9))
               go_roundw
               case rel=>exact⟨u+1,by omega,by rw[HKK.s],uT (by have h:=HO9.s;rw[HTB.s,<-jK,zRz];exact h),HK9,HP9,HX9.s,HB9.s⟩
               case measure=>simp[intOf]
              ·obtain rfl:u=wd:=by omega
               have HFIN:=uT (show wr.ownsRow w1.heap.size 3 1 u12 (N+u) (gU (E++bH (F.take (y+1))))by have h:=HDu.s;rw[qS (by rw[HFL.s];exact qA _),HGG.s,jK,<-HTF.s]at h;exact h)
               have HLEN:=uT (show(bH (F.take (y+1))).length+M=N+u by rw[HTF.s,qM,HFL.s];have:=HNL.s;omega)
               have d8:decide (((u:Int)-1-u)<0)=true:=by simp;omega
               go_wp2_with fail;go_roundw
               case rel=>exact⟨y+1,N+u,by omega,by go_num,by omega,HLEN,HFIN,HKu,hx8,hz8⟩
               case measure=>simp[intOf];omega
            ·obtain rfl:y=fn:=by omega
             have hFF:F.take y=F:=qS (by rw[HFN.s];exact qA _);have HNX:=uT (show N=L+34*(x+1)by have h1:=HNL.s;rw[hFF,HFB.s]at h1;have:=HMM.s;omega)
             have HDN:=uT (show wr.ownsRow w1.heap.size 3 1 u12 (L+34*(x+1)) (gU (D++bH ((slotsOf es).take (x+1))))by have h:=HDy.s;rw[hFF,HEE.s,jK,<-HSB.s,HNX.s]at h;exact h)
             clear hFF;go_wp2_with fail;go_roundw
             case rel=>exact⟨x+1,by omega,by go_num,HDN,hx6,hz6⟩
             case measure=>simp[intOf];omega
          ·obtain rfl:x=8:=by omega
           have HSN2:=uT (show bH (dS (rs.map EnR.es) (bM a b (ls.take (i+1)) 0))=D++bH ((slotsOf es).take 8)by rw[HTK.s,HSN.s,zGz,<-HDD.s,show(slotsOf es).take 8=slotsOf es from qS (by rw[zFb];exact qA _)])
           go_wp2_with fail;go_roundw
           case rel=>exact⟨i+1,L+34*8,by omega,by go_num,by omega,uT (by rw[HSN2.s,qM,HDL.s];have h:=HDx.s.1;unfold gU at h;rw[qQ,qM,HDL.s]at h;omega),uT (by rw[HSN2.s];exact HDx.s),HNB3,hx4,hz4⟩
           case measure=>simp[intOf];omega
    ·obtain rfl:i=k:=by omega
     have hlt:ls.take i=ls:=qS (by rw[HLL.s];exact qA _);rw[hlt]at HDL HD HNB;have HR2:=uT (show bT ⟨br,⟨lA,i,lc,ls⟩,tk,⟨mA,mn,mc,ms⟩,cap⟩ a b (TabR.es ⟨rs,tA,tc⟩)=(bytesOf (bH (dS (rs.map EnR.es) (bM a b ls 0))) (34*(bM a b ls 0).length),0)by rw[HRP2.s,if_neg (by rw[HNB.s];simp)])
     obtain⟨HLN,HLE⟩:=uI (zRo (rs.map EnR.es) (bM a b ls 0)) (zBw (dS (rs.map EnR.es) (bM a b ls 0)));obtain⟨D,hD⟩:=kB (bH (dS (rs.map EnR.es) (bM a b ls 0)));rw[<-hD]at HDL HD HR2 HLN HLE;obtain⟨q,hq⟩:=kB ((bM a b ls 0).length);rw[<-hq]at HR2 HLN;have hLq:L=272*q:=by have h1:=HDL.s;have h2:=HLN.s;omega
     obtain⟨AD,cD,rfl,_⟩:=bE HD.s;have HLQ:=uT hLq;clear hlt hD hq hLq HNB HRP2;go_wp2_with fail
     go_loopw [21,131] (λo j W=>∃(u:Nat),u<=L/\j= .int .i64 u/\uS (W.ownsRow w.heap.size 5 1 o ((u+7)/8) ((bytesOf (D.take u) ((u+7)/8)).map (.int .u8)))/\uS (W.ownsRow w1.heap.size 3 1 (.slice AD L cD) L (gU D))/\uR w W) (λ_ j _=>L-(intOf j).toNat)
     case atStart=>exact⟨0,qL _,rfl,qH _ _ _ _,HD,hz2'⟩
     case round=>
      obtain⟨u,hu,rfl,HOu,HDu,hzu⟩:=hrel;by_cases hul:u<L
      ·obtain⟨bd,od,bv,hbd,_,hbv,hcd⟩:=zCv (λb:Nat=>Value.int .i64 ((b:Nat):Int)) (Reads.of_own HDu.s) hul;subst hbd;have hb1:=HLE.s bv (qB hbv);have HTK:=uT (dB D u bv hbv);have hul':(u:Int)<(L:Int):=by omega
       clear hbv;by_cases h8:u%8=0
       ·have e1:(u+7)/8=u/8:=by omega
        have hut:u/8<=1000:=by omega
        rw[e1]at HOu;have HGR:=uT (zZq (D.take u) (u/8) (by rw[qY,HDL.s];omega));obtain⟨AO,cO,rfl,_⟩:=bE HOu.s;have hmq:(u/8+1)*1<=140737488355328:=by omega
        have hsu:=hzu.size;have h8':((u:Int)%8==0)=true:=by simp;omega
        obtain⟨nb,hnb⟩:=kB (u/8);rw[<-hnb]at HOu HGR hmq hut;rw[<-hnb];have HNBU:=uT hnb;clear e1 hnb;go_wp2_with(first
         |(at_builtin;(refine bF _ rfl (.tmp 139) (.tmp 140) _ rfl w.heap.size 5 iU _ 1 1 underlying55 hiU hzU hsU hyU rfl (by omega) (by omega) _ _ _ HOu.s rfl _ 1 _ rfl rfl rfl (by simp[Value.oneCell']) hmq hsu ?_);intro gq capq wq hgq hown9 hbel9 hgr9 hat9;have hzq:=hbel9 w.heap.size w (qA _) hzu;have HDq:=uT (fP HDu.s HOu.s (by decide) hgr9);have HO9:=uT hown9;have HGL:=uT hgq;clear hgq hown9 hbel9 hgr9 hat9))
        have HOx:=uT (show wq.ownsRow w.heap.size 5 1 (.slice (some ⟨gq,0,none⟩) (u/8+1) capq) (u/8+1) ((bytesOf (D.take u) (u/8+1)).map (.int .u8))by have h:=HO9.s;rw[HNBU.s]at h;have hg:=HGR.s;rw[HNBU.s]at hg;rw[hg,jA];exact h)
        obtain⟨curq,HBK',_⟩:=own_curU HOx.s;have HBK:=uT HBK';clear HBK';rw[HNBU.s];have hot:=HOx.s;have hub:u/8<u/8+1:=by omega
        have htl:(D.take u).length=u:=by rw[qY,HDL.s];omega
        have hle:∀b∈D.take u,b<=1:=λb hb=>HLE.s b (List.mem_of_mem_take hb)
        have hlow:=zLk (D.take u);have hbl:=zDl (D.take u) hle (u/8);rw[htl]at hlow;have hpv:=(zTr (byteOf (D.take u) (u/8)) bv (u%8) (by omega) hb1 hbl hlow).1;have hsn:=zJk (D.take u) bv (u/8+1) (by rw[htl];exact hub);rw[htl,<-HTK.s]at hsn;have hcx:wq.cell? ⟨gq,u/8,none⟩=some (.int .u8 (byteOf (D.take u) (u/8):Nat)):=zAr hot (u/8) (by rw[qV,zKl _ _ _ hub];rfl);have hfx:=(zDm hot (u/8) (by have:=(fH hot).2.1;omega)).2;have HSN:=uT hsn;obtain⟨old,hold⟩:=kB (byteOf (D.take u) (u/8));rw[<-hold]at hpv hcx HSN;have hpv2:bits .or .u8 (old:Int) (wrap64 ((bv:Int)*128)%256)=((old+bv*2^(7-u%8):Nat):Int):=by have h:=hpv;rw[h8]at h⊢;exact h
        have HVAL:=uT (show((old+bv*2^(7-u%8):Nat):Int)=(old:Int)+(bv:Int)*128 by rw[h8];simp);clear hot htl hle hlow hbl hsn hold;refine bV 13 (by kernel_rfl) (by kernel_rfl) ?_;simp only[qX,jE,qZ,jL]
        repeat(go_big_quiet_step (fail))
        refine qF ?_;rintro _ ⟨nq,rfl⟩;go_wp2_with fail;go_roundw
        case rel=>exact⟨u+1,by omega,by go_num,uT (by have h:=zXj (w:=wq.drewN nq) HOx.s (u/8) (.int .u8 ((old:Int)+(bv:Int)*128)) hub;rw[show(u+1+7)/8=u/8+1 by omega,HSN.s,List.map_set,HVAL.s];exact h),uT (bL (w:=wq.drewN nq) HDq.s (bJ (Only.refl _ _) _ _) λx hx e=>bC (g:=gq) HDq.s HBK.s (by decide) (by rw[hx,e])),(below_drewN hzq nq).setCell (by exact HGL.s) _⟩
        case measure=>simp[intOf];omega
       ·have e1:(u+7)/8=u/8+1:=by omega
        rw[e1]at HOu;obtain⟨gq,capq,curq,rfl,hgq,_,hbk,_⟩:=zUx HOu.s (by omega);obtain⟨HGL,HBK⟩:=uI hgq hbk;have hut:u/8<=1000:=by omega
        have h8':((u:Int)%8==0)=false:=by simp;omega
        obtain⟨HOx,HDq⟩:=uI HOu.s HDu.s;have hzq:=hzu;clear e1 hgq hbk;go_wp2_with fail;have hot:=HOx.s;have hub:u/8<u/8+1:=by omega
        have htl:(D.take u).length=u:=by rw[qY,HDL.s];omega
        have hle:∀b∈D.take u,b<=1:=λb hb=>HLE.s b (List.mem_of_mem_take hb)
        have hlow:=zLk (D.take u);have hbl:=zDl (D.take u) hle (u/8);rw[htl]at hlow;have hpv:=(zTr (byteOf (D.take u) (u/8)) bv (u%8) (by omega) hb1 hbl hlow).1;have hsn:=zJk (D.take u) bv (u/8+1) (by rw[htl];exact hub);rw[htl,<-HTK.s]at hsn;have hcx:wr.cell? ⟨gq,u/8,none⟩=some (.int .u8 (byteOf (D.take u) (u/8):Nat)):=zAr hot (u/8) (by rw[qV,zKl _ _ _ hub];rfl);have hfx:=(zDm hot (u/8) (by have:=(fH hot).2.1;omega)).2;have HSN:=uT hsn;obtain⟨old,hold⟩:=kB (byteOf (D.take u) (u/8));rw[<-hold]at hpv hcx HSN;clear hot htl hle hlow hbl hsn hold;refine bV 13 (by kernel_rfl) (by kernel_rfl) ?_;simp only[qX,jE,qZ,jL]
        repeat(go_big_quiet_step (fail))
        refine qF ?_;rintro _ ⟨nq,rfl⟩;go_wp2_with fail;go_roundw
        case rel=>exact⟨u+1,by omega,by go_num,uT (by have h:=zXj (w:=wr.drewN nq) HOx.s (u/8) (.int .u8 ((old+bv*2^(7-u%8):Nat):Int)) hub;rw[show(u+1+7)/8=u/8+1 by omega,HSN.s,List.map_set];exact h),uT (bL (w:=wr.drewN nq) HDq.s (bJ (Only.refl _ _) _ _) λx hx e=>bC (g:=gq) HDq.s HBK.s (by decide) (by rw[hx,e])),(below_drewN hzq nq).setCell (by exact HGL.s) _⟩
        case measure=>simp[intOf];omega
      ·obtain rfl:u=L:=by omega
       go_wp2_with fail;go_ret2;rw[HR2.s];have h:=HOu.s;have e:(u+7)/8=34*q:=by have:=HLQ.s;omega
       rw[qS (by rw[HDL.s];exact qA _),e]at h;exact⟨_,rfl,by dsimp only;simpa[bytesOf]using h,hzu⟩
def slN(bs:List Int)(k:Nat):Nat:=fv (bZ bs) (34*k) 34
theorem zYw(bs:List Int)(k:Nat):slN bs k<17179869184:=zHi _ (zBe bs) _ 34
def zAq(key n:Nat):Ent:=⟨key,((n/16777216%256:Nat):Int),((n/8%2097152:Nat):Int),((n%8:Nat):Int),decide (n/4294967296=3)⟩
def isN(n:Nat):Bool:=decide (n/8589934592=1)
theorem zUs(key n:Nat)(hn:n<17179869184)(h:isN n=true):zAo (zAq key n)=n:=by
 unfold isN at h;simp only[decide_eq_true_eq]at h;unfold zAo zCu zAq;dsimp only;simp only[qR,decide_eq_true_eq]
 split<;>omega
def zHm(R:List (List Ent))(i:Nat)(e:Ent):List (List Ent):=R.set i (R.getD i []++[e])
def dL(bs:List Int)(is:List Nat)(ln:Nat):Nat->List (List Ent)
 |0=>List.replicate ln []
 |k+1=>if isN (slN bs k)then zHm (dL bs is ln k) (is.getD (k/8) 0) (zAq (k%8) (slN bs k))else dL bs is ln k
theorem zBx(bs:List Int)(is:List Nat)(ln k:Nat):(dL bs is ln k).length=ln:=by
 induction k with
 |zero=>simp[dL]
 |succ k ih=>
  rw[dL]
  split
  ·unfold zHm;rw[List.length_set,ih]
  ·exact ih
def zCf(key n:Nat):Bool:=decide (n=0)||(isN n&&gJ (zAq key n))
def zDz(bs:List Int)(m:Nat):Bool:=(List.range (8*m)).all λk=>zCf (k%8) (slN bs k)
def dI(c:Cfg)(a b:Int)(bs:List Int):List (List Ent)×Int:=
 if bG c=false then([],4)
 else if cG c a=false\/cG c b=false then([],2)
 else if bs.length≠34*(bM a.toNat b.toNat c.la.zs 0).length then([],4)
 else if zDz bs (bM a.toNat b.toNat c.la.zs 0).length=true then(dL bs (bM a.toNat b.toNat c.la.zs 0) c.la.zs.length (8*(bM a.toNat b.toNat c.la.zs 0).length),0)
 else([],4)
def gZ(bs:List Int)(p:Nat):Nat->List Ent
 |0=>[]
 |q+1=>gZ bs p q++(if isN (slN bs (8*p+q))then [zAq q (slN bs (8*p+q))]else [])
theorem zEb(bs:List Int)(p:Nat):∀(q:Nat),∀e∈gZ bs p q,∃x:Nat,x<q/\e=zAq x (slN bs (8*p+x))/\isN (slN bs (8*p+x))=true
 |0=>λe he=>by simp[gZ]at he
 |q+1=>λe he=>by
  unfold gZ at he;rcases jI.1 he with h|h
  ·obtain⟨x,h1,h2,h3⟩:=zEb bs p q e h;exact⟨x,by omega,h2,h3⟩
  ·split at h
   ·rename_i h1;rw[jJ]at h;exact⟨q,by omega,h,h1⟩
   ·cases h
theorem zKi(bs:List Int)(p:Nat):∀(q:Nat),(gZ bs p q).Pairwise λx y=>x.key<y.key
 |0=>List.Pairwise.nil
 |q+1=>by
  unfold gZ;rw[List.pairwise_append];refine⟨zKi bs p q,by split<;>simp,λx hx y hy=> ?_⟩;obtain⟨z,h1,h2,_⟩:=zEb bs p q x hx
  split at hy
  ·rw[jJ]at hy;rw[h2,hy];simp only[zAq];omega
  ·cases hy
theorem zFg(bs:List Int)(p:Nat):∀(q:Nat),(gZ bs p q).length<=q
 |0=>by simp[gZ]
 |q+1=>by
  unfold gZ;rw[qM];have:=zFg bs p q
  split<;>simp<;>omega
theorem zGg(bs:List Int)(p:Nat):∀(q x:Nat),zBs (gZ bs p q) x=if x<q/\isN (slN bs (8*p+x))=true then some (zAq x (slN bs (8*p+x)))else none
 |0,x=>by simp[gZ,zBs]
 |q+1,x=>by
  unfold gZ;have ih:=zGg bs p q x
  split
  ·rename_i h;rw[zOe _ _ _ (λy hy=>by obtain⟨z,h1,h2,_⟩:=zEb bs p q y hy;rw[h2];simp only[zAq];omega),ih]
   by_cases hx:x=q
   ·subst hx;rw[if_pos (by simp[zAq]),if_pos ⟨by omega,h⟩]
   ·rw[if_neg (by simp only[zAq];omega)];by_cases hq:x<q
    ·simp[hq,show x<q+1 by omega]
    ·simp[hq,show ¬ x<q+1 by omega]
  ·rename_i h;rw[jR,ih];by_cases hx:x=q
   ·subst hx;simp[h]
   ·by_cases hq:x<q
    ·simp[hq,show x<q+1 by omega]
    ·simp[hq,show ¬ x<q+1 by omega]
theorem zFt(bs:List Int)(is:List Nat)(ln m:Nat)(hm:is.length=m)(hnd:is.Nodup)(hlt:∀i∈is,i<ln):∀(k:Nat),k<=8*m-> (∀p i:Nat,is[p]? =some i->(dL bs is ln k).getD i []=gZ bs p (min 8 (k-8*p)))/\(∀i:Nat,i∉is->(dL bs is ln k).getD i []=[])
 |0,_=>by
  refine⟨λp i hp=> ?_,λi hi=> ?_⟩
  ·rw[show min 8 (0-8*p)=0 by omega];simp[dL,gZ,jV]
   split<;>rfl
  ·simp[dL,jV]
   split<;>rfl
 |k+1,hk=>by
  obtain⟨h1,h2⟩:=zFt bs is ln m hm hnd hlt k (by omega);have hp0:is[k/8]? =some (is[k/8]'(by omega)):=qI _;generalize is[k/8]'(by omega)=i0 at hp0;have hi0:is.getD (k/8) 0=i0:=by rw[qG,hp0];rfl
  have hl0:=hlt i0 (qB hp0);have e8:8*(k/8)+k%8=k:=by omega
  have hset:∀(e:Ent) (i:Nat),(zHm (dL bs is ln k) i0 e).getD i []=if i=i0 then(dL bs is ln k).getD i0 []++[e]else(dL bs is ln k).getD i []:=λe i=>by
   unfold zHm;rw[qG,List.getElem?_set];by_cases hi:i0=i
   ·subst hi;rw[if_pos rfl,if_pos (by rw[zBx];exact hl0),if_pos rfl];rfl
   ·rw[if_neg hi,if_neg (λe=>hi e.symm),qG]
  have hmine:(dL bs is ln k).getD i0 []=gZ bs (k/8) (k%8):=by rw[h1 (k/8) i0 hp0,show min 8 (k-8*(k/8))=k%8 by omega]
  have hstep:gZ bs (k/8) (k%8+1)=gZ bs (k/8) (k%8)++(if isN (slN bs k)then [zAq (k%8) (slN bs k)]else []):=by
   conv=>lhs;unfold gZ
   rw[e8]
  rw[dL,hi0];refine⟨λp i hp=> ?_,λi hi=> ?_⟩
  ·by_cases hpk:p=k/8
   ·subst hpk;obtain rfl:i=i0:=by rw[hp0]at hp;cases hp;rfl
    rw[show min 8 (k+1-8*(k/8))=k%8+1 by omega,hstep]
    split
    ·rw[hset,if_pos rfl,hmine]
    ·rw[hmine,jR]
   ·have hne:i≠i0:=λe=>hpk ((List.getElem?_inj (qK.1 hp).1 hnd).1 (by rw[hp,hp0,e]))
    have e1:min 8 (k+1-8*p)=min 8 (k-8*p):=by omega
    rw[e1,<-h1 p i hp]
    split
    ·rw[hset,if_neg hne]
    ·rfl
  ·have hne:i≠i0:=λe=>hi (e▸qB hp0)
   split
   ·rw[hset,if_neg hne];exact h2 i hi
   ·exact h2 i hi
theorem zNn:∀(l:List Ent) (p:Option Int),(∀x∈l,gJ x=true)->(l.Pairwise λx y=>x.key<y.key)->(∀q,p=some q->∀x∈l,q<x.key)->dO l p=true
 |[],_,_,_,_=>rfl
 |e::l,p,h1,h2,h3=>by
  have hs:=List.pairwise_cons.1 h2;unfold dO;rw[h1 e (by simp),zNn l (some e.key) (λx hx=>h1 x (by simp[hx])) hs.2 λq hq x hx=>by cases hq;exact hs.1 x hx];cases p with
  |none=>rfl
  |some q=>have:=h3 q rfl e (by simp);simp[above];exact this
theorem zDf(a b:Nat):∀(ls:List Int) (i:Nat),(bM a b ls i).Nodup
 |[],_=>List.nodup_nil
 |z::ls,i=>by
  have ih:=zDf a b ls (i+1);unfold bM
  split
  ·refine List.nodup_cons.2 ⟨λh=> ?_,ih⟩;have:=zCp a b ls (i+1) i h;omega
  ·exact ih
theorem yHf(fs:List (Int×Int))(h:∀f∈fs,f.1=34)(k j:Nat)(f:Int×Int)(hk:fs[k]? =some f)(hj:j<34):(bH fs).getD (34*k+j) 0=f.2.toNat/2^(33-j)%2:=by
 have e:bH fs=(fs.map cT).flatten:=by unfold bH;rw[List.flatMap_def]
 rw[e,qG,Nat.mul_comm 34 k,zDw 34 (fs.map cT) (λcs hcs=>by obtain⟨g,hg,rfl⟩:=jC.1 hcs;rw[gP,h g hg];rfl) k j hj,qV,hk]
 have hf:=h f (qB hk);have:=zHx f j (by rw[hf];exact hj);simp only[Option.map_some,Option.bind_some];rw[this,hf];rfl
theorem yCr(v:Nat)(hv:v<17179869184):∀n,n<=34->fv (λj=>v/2^(33-j)%2) 0 n=v/2^(34-n)
 |0,_=>by rw[fv];exact(Nat.div_eq_of_lt hv).symm
 |n+1,h=>by rw[fv,yCr v hv n (by omega),Nat.zero_add,show 34-n=(33-n)+1 by omega,Nat.pow_succ,<-Nat.div_div_eq_div_mul,show 34-(n+1)=33-n by omega];omega
theorem zPk(D:List Nat)(h1:∀b∈D,b<=1)(n k:Nat)(hk:k<8*n):bZ (bytesOf D n) k=D.getD k 0:=by
 unfold bZ;have e:(bytesOf D n).getD (k/8) 0=((byteOf D (k/8):Nat):Int):=by rw[qG,zKl D n _ (by omega)];rfl
 rw[e,qR];unfold byteOf;rw[zMc];have hf:∀k,(λj=>D.getD j 0) k<=1:=λk=>by
  show D.getD k 0<=1;rw[qG];cases hg:D[k]? with
  |none=>simp
  |some b=>exact h1 b (qB hg)
 have:=zZr _ hf (8*(k/8)) 8 (k%8) (Nat.mod_lt _ (by omega));rw[show 8-1-k%8=7-k%8 by omega]at this;rw[this];show D.getD (8*(k/8)+k%8) 0=D.getD k 0
 congr 1
 omega
theorem zJs(R:List (List Ent)):∀(is:List Nat) (p i x:Nat),is[p]? =some i->x<8->(dS R is)[8*p+x]? =some (34,((gH (R.getD i []) x:Nat):Int))
 |[],p,i,x,h,_=>by simp at h
 |j::is,0,i,x,h,hx=>by simp at h;subst h;unfold dS;rw[jU,List.getElem?_append_left (by rw[zFb];omega),Nat.mul_zero,Nat.zero_add,zKb _ x hx]
 |j::is,p+1,i,x,h,hx=>by have ih:=zJs R is p i x (by simpa using h) hx;unfold dS at ih⊢;rw[jU,uG (by rw[zFb];omega),zFb,show 8*(p+1)+x-8=8*p+x by omega,ih]
theorem zZa(R:List (List Ent))(is:List Nat):∀f∈dS R is,f.1=34:=λf hf=>by unfold dS at hf;obtain⟨i,_,hf⟩:=List.mem_flatMap.1 hf;unfold slotsOf at hf;obtain⟨k,_,rfl⟩:=jC.1 hf;rfl
theorem yGk(c:Cfg)(a b:Int)(bs:List Int)(hbs:∀z∈bs,0<=z/\z<=255)(hcf:bG c=true)(hab:cG c a=true/\cG c b=true)(is:List Nat)(his:is=bM a.toNat b.toNat c.la.zs 0)(R:List (List Ent))(hR:R=dL bs is c.la.zs.length (8*is.length)):((bT c a b R).2=0/\(bT c a b R).1=bs)↔(bs.length=34*is.length/\zDz bs is.length=true):=by
 have hnd:is.Nodup:=by rw[his];exact zDf _ _ _ _
 have hlt:∀i∈is,i<c.la.zs.length:=λi hi=>by rw[his]at hi;have:=zCp _ _ _ _ i hi;omega
 obtain⟨hg1,hg2⟩:=zFt bs is c.la.zs.length is.length rfl hnd hlt (8*is.length) (qA _);rw[<-hR]at hg1 hg2;have hlen:R.length=c.la.zs.length:=by rw[hR];exact zBx _ _ _ _
 have hrow:∀p i:Nat,is[p]? =some i->R.getD i []=gZ bs p 8:=λp i hp=>by have hpl:=(qK.1 hp).1;rw[hg1 p i hp,show min 8 (8*is.length-8*p)=8 by omega]
 have hRP:bT c a b R=if R.any (λl=> !bU l)=true then([],4)else if is.any (λi=>dZ (R.getD i []))=true then([],12)else(bytesOf (bH (dS R is)) (34*is.length),0):=by unfold bT;rw[if_neg (by rw[hcf];simp),if_neg (by rw[hab.1,hab.2];simp),if_neg (by rw[hlen];simp),<-his]
 have hmay:∀p,(∀x,x<8->isN (slN bs (8*p+x))=true->gJ (zAq x (slN bs (8*p+x)))=true)->bU (gZ bs p 8)=true:=λp h=>by unfold bU;have hl:=zFg bs p 8;rw[zNn _ none (λe he=>by obtain⟨x,h1,h2,h3⟩:=zEb bs p 8 e he;rw[h2];exact h x h1 h3) (zKi bs p 8) λq hq=>by cases hq];simp;omega
 have hslot:∀(p i x:Nat),is[p]? =some i->x<8->gH (R.getD i []) x=if isN (slN bs (8*p+x))=true then slN bs (8*p+x)else 0:=λp i x hp hx=>by
  rw[hrow p i hp];unfold gH;rw[zGg];by_cases h:isN (slN bs (8*p+x))=true
  ·rw[if_pos ⟨hx,h⟩,if_pos h];exact zUs x _ (zYw bs _) h
  ·rw[if_neg (λe=>h e.2),if_neg h]
 constructor
 ·rintro⟨h2,h1⟩;rw[hRP]at h1 h2
  split at h2
  ·simp at h2
  rename_i hm;rw[if_neg hm]at h1
  split at h2
  ·simp at h2
  rename_i hb;rw[if_neg hb]at h1;dsimp only at h1;have hl:bs.length=34*is.length:=by rw[<-h1];simp[bytesOf]
  refine⟨hl,?_⟩;unfold zDz;rw[uE];intro k hk;have hk8:k<8*is.length:=jZ.1 hk;obtain⟨i,hi⟩:∃i,is[k/8]? =some i:=⟨_,qI (by omega)⟩;have e8:8*(k/8)+k%8=k:=by omega
  have hx8:k%8<8:=Nat.mod_lt _ (by omega);have hsv:=hslot (k/8) i (k%8) hi hx8;rw[e8]at hsv;have hfk:=zJs R is (k/8) i (k%8) hi hx8;rw[e8]at hfk;have hvlt:gH (R.getD i []) ((k%8:Nat):Int)<17179869184:=by
   rw[hsv];split
   ·exact zYw bs k
   ·omega
  have hsl:slN bs k=gH (R.getD i []) ((k%8:Nat):Int):=by
   have h34:=yCr (gH (R.getD i []) ((k%8:Nat):Int)) hvlt 34 (qA _);rw[show 34-34=0 from rfl,Nat.pow_zero,Nat.div_one]at h34;rw[<-h34];unfold slN;have hcg:∀j,j<34->bZ bs (34*k+j)=gH (R.getD i []) ((k%8:Nat):Int)/2^(33-j)%2:=λj hj=>by have hb1:=zPk (bH (dS R is)) (zBw _) (34*is.length) (34*k+j) (by omega);rw[h1]at hb1;rw[hb1,yHf (dS R is) (zZa R is) k j _ hfk hj];simp
   have:∀n,n<=34->fv (bZ bs) (34*k) n=fv (λj=>gH (R.getD i []) ((k%8:Nat):Int)/2^(33-j)%2) 0 n:=by
    intro n
    induction n with
    |zero=>intro _;rfl
    |succ n ih=>intro hn;rw[fv,fv,ih (by omega),hcg n (by omega),Nat.zero_add]
   exact this 34 (qA _)
  unfold zCf;rw[Bool.or_eq_true];by_cases h:isN (slN bs k)=true
  ·right
   rw[h,Bool.true_and];have hmi:R.getD i []∈R:=by rw[qG,qI (by rw[hlen];exact hlt i (qB hi))];exact List.getElem_mem _
   have hmy:bU (R.getD i [])=true:=by
    cases hc:bU (R.getD i [])with
    |true=>rfl
    |false=>exact absurd (List.any_eq_true.2 ⟨_,hmi,by rw[hc];rfl⟩) hm
   have hin:zAq (k%8) (slN bs k)∈R.getD i []:=by rw[hrow _ _ hi];have:=zGg bs (k/8) 8 (k%8);rw[e8,if_pos ⟨hx8,h⟩]at this;exact List.mem_of_find?_eq_some this
   unfold bU at hmy;simp only[qT]at hmy;exact(zTt _ none hmy.1).1 _ hin
  ·left
   rw[if_neg h]at hsv;rw[decide_eq_true_eq,hsl,hsv]
 ·rintro⟨hl,hga⟩;have hgk:∀k,k<8*is.length->zCf (k%8) (slN bs k)=true:=λk hk=>uE.1 hga k (jZ.2 hk)
  have hone:∀p x:Nat,p<is.length->x<8->isN (slN bs (8*p+x))=true->gJ (zAq x (slN bs (8*p+x)))=true:=λp x hp hx h=>by
   have:=hgk (8*p+x) (by omega);rw[show(8*p+x)%8=x by omega]at this;unfold zCf at this;rw[Bool.or_eq_true,h,Bool.true_and]at this;rcases this with h1|h1
   ·simp only[decide_eq_true_eq]at h1;rw[h1]at h;simp[isN]at h
   ·exact h1
  have hm:R.any (λl=> !bU l)=false:=by
   rw[List.any_eq_false];intro l hl;obtain⟨i,hi⟩:=jY.1 hl;have hgi:R.getD i []=l:=by rw[qG,hi];rfl
   by_cases hin:i∈is
   ·obtain⟨p,hp⟩:=jY.1 hin;rw[<-hgi,hrow p i hp,hmay p λx hx h=>hone p x (qK.1 hp).1 hx h];simp
   ·rw[<-hgi,hg2 i hin]
    decide
  have hb:is.any (λi=>dZ (R.getD i []))=false:=by rw[List.any_eq_false];intro i hi;obtain⟨p,hp⟩:=jY.1 hi;rw[hrow p i hp];unfold dZ;rw[Bool.not_eq_true,List.any_eq_false];intro e he;obtain⟨x,h1,h2,_⟩:=zEb bs p 8 e he;rw[h2];unfold zAq;simp;omega
  rw[hRP,hm,if_neg (by simp),hb,if_neg (by simp)];refine⟨rfl,?_⟩;dsimp only;have hfs:dS R is=fsB bs (List.replicate (8*is.length) 34) 0:=by
   apply List.ext_getElem?;intro k;by_cases hk:k<8*is.length
   ·obtain⟨i,hi⟩:∃i,is[k/8]? =some i:=⟨_,qI (by omega)⟩;have e8:8*(k/8)+k%8=k:=by omega
    have hx8:k%8<8:=Nat.mod_lt _ (by omega);have hfk:=zJs R is (k/8) i (k%8) hi hx8;have hsv:=hslot (k/8) i (k%8) hi hx8;rw[e8]at hfk hsv;have htw:dF ((List.replicate (8*is.length) (34:Int)).take k)=34*k:=by unfold dF;rw[List.take_replicate,List.map_replicate,List.sum_replicate_nat,Nat.min_eq_left (by omega)];show k*34=34*k;omega
    rw[hfk,yCn bs _ 0 k 34 (by rw[jV,if_pos hk]),htw,Nat.zero_add,hsv]
    congr 2
    have:=hgk k hk;unfold zCf at this;rw[Bool.or_eq_true]at this;by_cases h:isN (slN bs k)=true
    ·rw[if_pos h];rfl
    ·rw[if_neg h];rcases this with h1|h1
     ·simp only[decide_eq_true_eq]at h1;unfold slN at h1;show((0:Nat):Int)=((fv (bZ bs) (34*k) 34:Nat):Int);rw[h1]
     ·rw[qT]at h1;exact absurd h1.1 h
   ·rw[qU (by rw[zOf];omega),qU (by rw[zTn,jB];omega)]
  have htot:dF (List.replicate (8*is.length) (34:Int))=8*bs.length:=by unfold dF;rw[List.map_replicate,List.sum_replicate_nat,hl];show 8*is.length*34=8*(34*is.length);omega
  have:=(zRj bs (List.replicate (8*is.length) 34) hbs (by rw[htot];exact qA _)).2 (by unfold zDs;rw[htot];simp;intro k h1 h2;omega)
  rw[hfs,<-hl];exact this
section
open Go.RowKit Go.ChangeShapes Go.WideShapes Go.Deep
theorem zMg(c:Cfg)(a b:Int)(t:TabR)(B:Nat)(w:World)(hc:c.ok w B)(ht:TabOk w B t)(hB:B<=w.heap.size):Calls prog 70 #[c.val,.int .i64 a,.int .i64 b,t.val] w (zCa (bT c a b t.es) w):=by
 by_cases h:bG c=true/\(cG c a=true/\cG c b=true)/\t.es.length=c.la.zs.length
 ·obtain⟨h1,h2,h3⟩:=h;have ha:0<=a:=by have:=h2.1;unfold cG at this;simp at this;omega
  have hb:0<=b:=by have:=h2.2;unfold cG at this;simp at this;omega
  obtain⟨a,rfl⟩:=qP ha;obtain⟨b,rfl⟩:=qP hb;exact zTp c a b t B w hc ht hB h1 h2 h3
 ·exact zQq c a b t B w hc ht hB h
end
end Go.Proofs.YtbolcebmbpepdaaGreatDoor
