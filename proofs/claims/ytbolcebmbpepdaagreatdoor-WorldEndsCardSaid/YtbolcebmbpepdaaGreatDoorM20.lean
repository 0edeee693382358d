/- Contracts. Conditions: those each states. -/
import Derived.Deep.Onto
import Derived.Test.YtbolcebmbpepdaaGreatDoorM14
namespace Go.Proofs.YtbolcebmbpepdaaGreatDoor
set_option maxRecDepth 100000
set_option maxHeartbeats 8000000
set_option linter.all false
open Go.RowKit Tryz
theorem yIg:(prog.info? 179).map (λi=>(i.zero,i.size,i.bytes))=some (some (.agg #[.int .i64 0,.int .i64 0]),2,16):=by kernel_rfl
theorem zXc:∃i,prog.info? 179=some i/\i.zero=some (.agg #[.int .i64 0,.int .i64 0])/\i.size=2/\i.bytes=16:=by
 have h:=yIg;cases hi:prog.info? 179 with
 |none=>rw[hi]at h;simp at h
 |some i=>rw[hi]at h;simp at h;exact⟨i,rfl,h.1,h.2.1,h.2.2⟩
def fQ(c:Cfg)(zs:List Int):List Int×Int:=
 if bG c=false then([],4)else if zs.length≠c.mi.zs.length then([],1)else if zs.any gY then([],12)else gM (zs.map λz=>(21,z))
def zAp(c:Cfg)(zs:List Int)(e:Ending)(w w':World):Prop:=
 ∃v:Value,e= .returned (.tuple #[v,.int .i64 (fQ c zs).2])/\w'.ownsRow w.heap.size 5 1 v (fQ c zs).1.length ((fQ c zs).1.map (.int .u8))/\uR w w'
theorem zZk(c:Cfg)(r:IRw)(B:Nat)(w:World)(hc:c.ok w B)(hr:r.ok w B)(hB:B<=w.heap.size):Calls prog 80 #[c.val,.slice r.A r.n r.c] w λe w'=>zAp c r.zs e w w':=by
 obtain⟨wA,wn,wc,zs⟩:=r;obtain⟨q1,q2,q3,q4⟩:=hr;dsimp only at q1 q2 q3 q4⊢;have HMY:=uT (λW (hW:uR w W)=>zCh c B W (hc.below (hW.mono hB)) (qN hB hW.size));have hmn:=hc.2.1.1;have hmc:=hc.2.1.2.1;have hmm:=hc.2.1.2.2.1;obtain⟨br,⟨lA,ln,lc,ls⟩,tk,⟨mA,mn,mc,ms⟩,cap⟩:=c;unfold Cfg.val at HMY⊢;dsimp only at HMY hmn hmc hmm⊢;obtain⟨HMN,HZL,HR⟩:=uJ hmn q1 (q4.more hB);have hmnb:mn<=9223372036854775807:=by unfold maxLen at hmm;omega
 have hwnb:wn<=9223372036854775807:=by unfold maxLen at q3;omega
 obtain⟨wx,hwx⟩:=kB (w.alloc (.cells #[.int .i64 br,.slice lA ln lc,.int .i64 tk,.slice mA mn mc,.int .i64 cap] 24));have hbx:=uH hwx;have hsx:w.heap.size<wx.heap.size:=by rw[hwx];simp
 have hnew:=Blk.new w 24 #[.int .i64 br,.slice lA ln lc,.int .i64 tk,.slice mA mn mc,.int .i64 cap];rw[<-hwx]at hnew;have c0:∀W,uR wx W->W.cell? ⟨w.heap.size,0,none⟩=some (.int .i64 br):=λW hW=>(Blk.below hnew hW hsx).cell 0
 have c1:∀W,uR wx W->W.cell? ⟨w.heap.size,1,none⟩=some (.slice lA ln lc):=λW hW=>(Blk.below hnew hW hsx).cell 1
 have c2:∀W,uR wx W->W.cell? ⟨w.heap.size,2,none⟩=some (.int .i64 tk):=λW hW=>(Blk.below hnew hW hsx).cell 2
 have c3:∀W,uR wx W->W.cell? ⟨w.heap.size,3,none⟩=some (.slice mA mn mc):=λW hW=>(Blk.below hnew hW hsx).cell 3
 have c4:∀W,uR wx W->W.cell? ⟨w.heap.size,4,none⟩=some (.int .i64 cap):=λW hW=>(Blk.below hnew hW hsx).cell 4
 have hz0:uR wx wx:=qC _ _;obtain⟨HMY',HBX,HWX⟩:=uJ (HMY.s wx hbx) hbx hwx;clear hbx hwx hnew hsx q1 q4 hmn HMY hc;obtain⟨iF,hiF,hzF0,hzF1,hzF2⟩:=zXc;cases hcf:bG ⟨br,⟨lA,ln,lc,ls⟩,tk,⟨mA,mn,mc,ms⟩,cap⟩with
 |false=>have HG:=uT (show fQ ⟨br,⟨lA,ln,lc,ls⟩,tk,⟨mA,mn,mc,ms⟩,cap⟩ zs=([],4)by unfold fQ;rw[hcf];rfl);rw[hcf]at HMY';clear hcf;go_enter func80,ntmps80;go_wp2_with fail;rw[<-HWX.s];refine HMY'.s.mono ?_;rintro _ w1 ⟨rfl,hb1⟩;have HB:=uT (HBX.s.trans (hb1.mono HBX.s.size));clear hb1;go_wp2_with fail;go_ret2;unfold zAp;rw[HG.s];exact⟨_,rfl,qH _ _ _ _,HB.s⟩
 |true=>
  rw[hcf]at HMY';have HCF:=uT hcf;clear hcf;by_cases he:wn=mn
  rotate_left
  ·have HG:=uT (show fQ ⟨br,⟨lA,ln,lc,ls⟩,tk,⟨mA,mn,mc,ms⟩,cap⟩ zs=([],1)by unfold fQ;rw[HCF.s];dsimp only;rw[if_neg (by simp),if_pos (by rw[HZL.s,HMN.s];exact he)]);have e1:(((wn:Nat):Int) !=(mn:Nat))=true:=by simp;omega
   have e2:(wn !=mn)=true:=by simp;omega
   clear he;go_enter func80,ntmps80;go_wp2_with fail;rw[<-HWX.s];refine HMY'.s.mono ?_;rintro _ w1 ⟨rfl,hb1⟩;have hz1:uR wx w1:=hb1;have HB:=uT (HBX.s.trans (hb1.mono HBX.s.size));clear hb1;go_wp2_with fail;go_ret2;unfold zAp;rw[HG.s];exact⟨_,rfl,qH _ _ _ _,HB.s⟩
  obtain rfl:wn=mn:=he;have hn3:wn<=3:=by have h:=HCF.s;simp[bG,inB]at h;have h2:=HMN.s;omega
  have HQ:=uT (show fQ ⟨br,⟨lA,ln,lc,ls⟩,tk,⟨mA,wn,mc,ms⟩,cap⟩ zs=(if zs.any gY then([],12)else gM (zs.map λz=>(21,z)))by unfold fQ;rw[HCF.s];dsimp only;rw[if_neg (by simp),if_neg (by rw[HZL.s,HMN.s];simp)]);obtain⟨R,hR⟩:∃R,fQ ⟨br,⟨lA,ln,lc,ls⟩,tk,⟨mA,wn,mc,ms⟩,cap⟩ zs=R:=⟨_,rfl⟩;rw[hR]at HQ;have HRR:=uT hR;clear hR;go_enter func80,ntmps80;go_wp2_with fail;rw[<-HWX.s];refine HMY'.s.mono ?_;rintro _ w1 ⟨rfl,hb1⟩;have hz1:uR wx w1:=hb1;have HB1:=uT (HBX.s.trans (hb1.mono HBX.s.size));clear hb1;go_wp2_with fail
  go_loopw [6,20] (λv i wr=>∃(k:Nat),k<=wn/\i= .int .i64 k/\wr.ownsRow w.heap.size 179 2 v k (((zs.take k).map λz=>((21:Int),z)).flatMap gL)/\uR w wr/\uS ((zs.drop k).any gY=zs.any gY)) (λ_ i _=>wn-(intOf i).toNat)
  case atStart=>exact⟨0,qL _,rfl,qH _ _ _ _,HB1.s,rfl⟩
  case round=>
   obtain⟨k,hk,rfl,hown,hb,HX⟩:=hrel;by_cases hlt:k<wn
   ·obtain⟨b1,o1,z,rfl,hbl,hz,hcz⟩:=dQ (HR.s.below hb) hlt;obtain⟨HX2,HTK⟩:=uI (by have h:=HX.s;rw[cZ zs k z hz,List.any_cons]at h;exact h) (dB zs k z hz);have hsz:=hb.size;obtain⟨HB,HO⟩:=uI hb hown;have hmb:(k+1)*16<=140737488355328:=by omega
    clear HX hz hb hown hz1 hz0;have HIN:=uT (zCw z 0 1048576);cases hin:inB z 0 1048576 with
    |false=>have HG:=uT (show R=([],12)by rw[HQ.s,<-HX2.s,show gY z=true by unfold inB at hin;unfold gY;simp at hin⊢;omega];rfl);rw[hin]at HIN;clear hin HX2;go_wp2_with fail;refine(HIN.s _).mono ?_;rintro _ _ ⟨rfl,rfl⟩;go_wp2_with fail;go_ret2;unfold zAp;rw[HRR.s,HG.s];exact⟨_,rfl,qH _ _ _ _,HB.s⟩
    |true=>
     have HX3:=uT (show(zs.drop (k+1)).any gY=zs.any gY by rw[<-HX2.s,show gY z=false by unfold inB at hin;unfold gY;simp at hin⊢;omega];rfl);rw[hin]at HIN;clear hin HX2;go_wp2_with fail;refine(HIN.s _).mono ?_;rintro _ _ ⟨rfl,rfl⟩;go_wp2_with(first
      |(at_builtin;(refine bF _ rfl (.tmp 27) (.tmp 30) _ rfl w.heap.size 179 iF _ 2 16 underlying177 hiF hzF0 hzF1 hzF2 rfl (by omega) (by omega) _ _ _ HO.s rfl _ 1 _ rfl rfl rfl (by simp[Value.oneCell']) hmb (by omega) ?_);intro g cap w4 hg4 hown4 hbel4 _ _))
     go_roundw
     case rel=>refine⟨k+1,by omega,by go_num,?_,hbel4 _ _ (qA _) HB.s,HX3.s⟩;rw[HTK.s,jA,jN];exact hown4
     case measure=>simp[intOf];omega
   ·obtain rfl:k=wn:=by omega
    have HF:=uT (show R=gM (zs.map λz=>(21,z))by have h:=HX.s;rw[qW (by rw[HZL.s];exact qA _)]at h;rw[HQ.s,<-h];rfl)
    have hown2:=hown;rw[qS (by rw[HZL.s];exact qA _)]at hown2;obtain⟨A5,c5,hv5,hc5⟩:=bE hown2;subst hv5;obtain⟨HPK,HB⟩:=uI (zNl A5 k c5 (zs.map λz=>(21,z)) wr (by rw[qQ];exact HZL.s) (by omega) (Reads.of_own hown2)) hb;clear HX hown hown2 hb hz1 hz0;go_wp2_with fail;refine HPK.s.mono ?_;rintro _ w5 ⟨v5,rfl,hown5,hb5⟩;obtain⟨HO5,HB5⟩:=uI hown5 (HB.s.trans (hb5.mono HB.s.size));have HBS:=uT HB.s.size;clear hown5 hb5;go_wp2_with fail;go_ret2;unfold zAp;rw[HRR.s,HF.s];exact⟨_,rfl,World.ownsRow.mono HO5.s HBS.s,HB5.s⟩
theorem zZg(c:Cfg)(r:IRw)(B:Nat)(w:World)(hc:c.ok w B)(hr:r.ok w B)(hB:B<=w.heap.size):Calls prog 69 #[c.val,.slice r.A r.n r.c] w λe w'=>zAp c r.zs e w w':=by
 obtain⟨wA,wn,wc,zs⟩:=r;obtain⟨q1,q2,q3,q4⟩:=hr;dsimp only at q1 q2 q3 q4⊢;have HMY:=uT (λW (hW:uR w W)=>zBr c B W (hc.below (hW.mono hB)) (qN hB hW.size));have hmn:=hc.2.1.1;have hmc:=hc.2.1.2.1;have hmm:=hc.2.1.2.2.1;obtain⟨br,⟨lA,ln,lc,ls⟩,tk,⟨mA,mn,mc,ms⟩,cap⟩:=c;unfold Cfg.val at HMY⊢;dsimp only at HMY hmn hmc hmm⊢;obtain⟨HMN,HZL,HR⟩:=uJ hmn q1 (q4.more hB);have hmnb:mn<=9223372036854775807:=by unfold maxLen at hmm;omega
 have hwnb:wn<=9223372036854775807:=by unfold maxLen at q3;omega
 obtain⟨wx,hwx⟩:=kB (w.alloc (.cells #[.int .i64 br,.slice lA ln lc,.int .i64 tk,.slice mA mn mc,.int .i64 cap] 24));have hbx:=uH hwx;have hsx:w.heap.size<wx.heap.size:=by rw[hwx];simp
 have hnew:=Blk.new w 24 #[.int .i64 br,.slice lA ln lc,.int .i64 tk,.slice mA mn mc,.int .i64 cap];rw[<-hwx]at hnew;have c0:∀W,uR wx W->W.cell? ⟨w.heap.size,0,none⟩=some (.int .i64 br):=λW hW=>(Blk.below hnew hW hsx).cell 0
 have c1:∀W,uR wx W->W.cell? ⟨w.heap.size,1,none⟩=some (.slice lA ln lc):=λW hW=>(Blk.below hnew hW hsx).cell 1
 have c2:∀W,uR wx W->W.cell? ⟨w.heap.size,2,none⟩=some (.int .i64 tk):=λW hW=>(Blk.below hnew hW hsx).cell 2
 have c3:∀W,uR wx W->W.cell? ⟨w.heap.size,3,none⟩=some (.slice mA mn mc):=λW hW=>(Blk.below hnew hW hsx).cell 3
 have c4:∀W,uR wx W->W.cell? ⟨w.heap.size,4,none⟩=some (.int .i64 cap):=λW hW=>(Blk.below hnew hW hsx).cell 4
 have hz0:uR wx wx:=qC _ _;obtain⟨HMY',HBX,HWX⟩:=uJ (HMY.s wx hbx) hbx hwx;clear hbx hwx hnew hsx q1 q4 hmn HMY hc;obtain⟨iF,hiF,hzF0,hzF1,hzF2⟩:=zXc;cases hcf:bG ⟨br,⟨lA,ln,lc,ls⟩,tk,⟨mA,mn,mc,ms⟩,cap⟩with
 |false=>have HG:=uT (show fQ ⟨br,⟨lA,ln,lc,ls⟩,tk,⟨mA,mn,mc,ms⟩,cap⟩ zs=([],4)by unfold fQ;rw[hcf];rfl);rw[hcf]at HMY';clear hcf;go_enter func69,ntmps69;go_wp2_with fail;rw[<-HWX.s];refine HMY'.s.mono ?_;rintro _ w1 ⟨rfl,hb1⟩;have HB:=uT (HBX.s.trans (hb1.mono HBX.s.size));clear hb1;go_wp2_with fail;go_ret2;unfold zAp;rw[HG.s];exact⟨_,rfl,qH _ _ _ _,HB.s⟩
 |true=>
  rw[hcf]at HMY';have HCF:=uT hcf;clear hcf;by_cases he:wn=mn
  rotate_left
  ·have HG:=uT (show fQ ⟨br,⟨lA,ln,lc,ls⟩,tk,⟨mA,mn,mc,ms⟩,cap⟩ zs=([],1)by unfold fQ;rw[HCF.s];dsimp only;rw[if_neg (by simp),if_pos (by rw[HZL.s,HMN.s];exact he)]);have e1:(((wn:Nat):Int) !=(mn:Nat))=true:=by simp;omega
   have e2:(wn !=mn)=true:=by simp;omega
   clear he;go_enter func69,ntmps69;go_wp2_with fail;rw[<-HWX.s];refine HMY'.s.mono ?_;rintro _ w1 ⟨rfl,hb1⟩;have hz1:uR wx w1:=hb1;have HB:=uT (HBX.s.trans (hb1.mono HBX.s.size));clear hb1;go_wp2_with fail;go_ret2;unfold zAp;rw[HG.s];exact⟨_,rfl,qH _ _ _ _,HB.s⟩
  obtain rfl:wn=mn:=he;have hn3:wn<=3:=by have h:=HCF.s;simp[bG,inB]at h;have h2:=HMN.s;omega
  have HQ:=uT (show fQ ⟨br,⟨lA,ln,lc,ls⟩,tk,⟨mA,wn,mc,ms⟩,cap⟩ zs=(if zs.any gY then([],12)else gM (zs.map λz=>(21,z)))by unfold fQ;rw[HCF.s];dsimp only;rw[if_neg (by simp),if_neg (by rw[HZL.s,HMN.s];simp)]);obtain⟨R,hR⟩:∃R,fQ ⟨br,⟨lA,ln,lc,ls⟩,tk,⟨mA,wn,mc,ms⟩,cap⟩ zs=R:=⟨_,rfl⟩;rw[hR]at HQ;have HRR:=uT hR;clear hR;go_enter func69,ntmps69;go_wp2_with fail;rw[<-HWX.s];refine HMY'.s.mono ?_;rintro _ w1 ⟨rfl,hb1⟩;have hz1:uR wx w1:=hb1;have HB1:=uT (HBX.s.trans (hb1.mono HBX.s.size));clear hb1;go_wp2_with fail
  go_loopw [6,20] (λv i wr=>∃(k:Nat),k<=wn/\i= .int .i64 k/\wr.ownsRow w.heap.size 179 2 v k (((zs.take k).map λz=>((21:Int),z)).flatMap gL)/\uR w wr/\uS ((zs.drop k).any gY=zs.any gY)) (λ_ i _=>wn-(intOf i).toNat)
  case atStart=>exact⟨0,qL _,rfl,qH _ _ _ _,HB1.s,rfl⟩
  case round=>
   obtain⟨k,hk,rfl,hown,hb,HX⟩:=hrel;by_cases hlt:k<wn
   ·obtain⟨b1,o1,z,rfl,hbl,hz,hcz⟩:=dQ (HR.s.below hb) hlt;obtain⟨HX2,HTK⟩:=uI (by have h:=HX.s;rw[cZ zs k z hz,List.any_cons]at h;exact h) (dB zs k z hz);have hsz:=hb.size;obtain⟨HB,HO⟩:=uI hb hown;have hmb:(k+1)*16<=140737488355328:=by omega
    clear HX hz hb hown hz1 hz0;by_cases hz0:z<0
    ·have HG:=uT (show R=([],12)by rw[HQ.s,<-HX2.s];simp[gY,hz0]);go_wp2_with fail;go_ret2;unfold zAp;rw[HRR.s,HG.s];exact⟨_,rfl,qH _ _ _ _,HB.s⟩
    by_cases hz1:1048576<z
    ·have HG:=uT (show R=([],12)by rw[HQ.s,<-HX2.s];simp[gY,hz1]);have hz0':0<=z:=by omega
     go_wp2_with fail;go_ret2;unfold zAp;rw[HRR.s,HG.s];exact⟨_,rfl,qH _ _ _ _,HB.s⟩
    have hz0':0<=z:=by omega
    have hz1':z<=1048576:=by omega
    have HX3:=uT (show(zs.drop (k+1)).any gY=zs.any gY by rw[<-HX2.s];simp[gY,hz0,hz1]);clear HX2 hz0 hz1;go_wp2_with(first
     |(at_builtin;(refine bF _ rfl (.tmp 30) (.tmp 33) _ rfl w.heap.size 179 iF _ 2 16 underlying177 hiF hzF0 hzF1 hzF2 rfl (by omega) (by omega) _ _ _ HO.s rfl _ 1 _ rfl rfl rfl (by simp[Value.oneCell']) hmb (by omega) ?_);intro g cap w4 hg4 hown4 hbel4 _ _))
    go_roundw
    case rel=>refine⟨k+1,by omega,by go_num,?_,hbel4 _ _ (qA _) HB.s,HX3.s⟩;rw[HTK.s,jA,jN];exact hown4
    case measure=>simp[intOf];omega
   ·obtain rfl:k=wn:=by omega
    have HF:=uT (show R=gM (zs.map λz=>(21,z))by have h:=HX.s;rw[qW (by rw[HZL.s];exact qA _)]at h;rw[HQ.s,<-h];rfl)
    have hown2:=hown;rw[qS (by rw[HZL.s];exact qA _)]at hown2;obtain⟨A5,c5,hv5,hc5⟩:=bE hown2;subst hv5;obtain⟨HPK,HB⟩:=uI (zNz A5 k c5 (zs.map λz=>(21,z)) wr (by rw[qQ];exact HZL.s) (by omega) (Reads.of_own hown2)) hb;clear HX hown hown2 hb hz1 hz0;go_wp2_with fail;refine HPK.s.mono ?_;rintro _ w5 ⟨v5,rfl,hown5,hb5⟩;obtain⟨HO5,HB5⟩:=uI hown5 (HB.s.trans (hb5.mono HB.s.size));have HBS:=uT HB.s.size;clear hown5 hb5;go_wp2_with fail;go_ret2;unfold zAp;rw[HRR.s,HF.s];exact⟨_,rfl,World.ownsRow.mono HO5.s HBS.s,HB5.s⟩
end Go.Proofs.YtbolcebmbpepdaaGreatDoor
