/- Contracts. Conditions: those each states. -/
import Derived.Test.YtbolcebmbpepdaaGreatDoorM20
import Derived.Test.YtbolcebmbpepdaaGreatDoorM17
namespace Go.Proofs.YtbolcebmbpepdaaGreatDoor
set_option maxRecDepth 100000
set_option maxHeartbeats 8000000
set_option linter.all false
open Go.RowKit Tryz
def zAd(z:Int):Bool:=decide (1048576<z)
theorem zZn(zs:List Int)(k:Nat)(z:Int)(h:zs[k]? =some z):(zs.take (k+1)).any zAd=((zs.take k).any zAd||zAd z):=by rw[dB zs k z h,List.any_append];simp
theorem max_any(A:Option Addr)(n c:Nat)(zs:List Int)(B:Nat)(w:World)(hl:zs.length=n)(h1:1<=n)(hm:n<=9223372036854775807)(hr:Reads w B 1 A n (zs.map (.int .i64))):Calls prog 113 #[.slice A n c] w λe w'=>∃m:Int,e= .returned (.int .i64 m)/\uS (zAd m=zs.any zAd)/\w=w':=by
 obtain⟨HL,HR⟩:=uI hl hr;obtain⟨b0,o0,z0,rfl,hbl,hz,hc0⟩:=dQ hr (show 0<n by omega);have HT1:=uT (show zAd z0=(zs.take 1).any zAd by rw[show(1:Nat)=0+1 from rfl,zZn zs 0 z0 hz];simp);clear hl hr hz;simp only[Nat.add_zero]at hc0 hbl;go_enter func113,ntmps113;go_wp2_with fail
 go_loopw [3,4] (λx i wr=>∃(k:Nat) (m:Int),1<=k/\k<=n/\i= .int .i64 k/\x= .int .i64 m/\uS (zAd m=(zs.take k).any zAd)/\w=wr) (λ_ i _=>n-(intOf i).toNat)
 case atStart=>exact⟨1,z0,qA _,h1,rfl,rfl,HT1,rfl⟩
 case round=>
  obtain⟨k,m,hk1,hk,rfl,rfl,HX,rfl⟩:=hrel;by_cases hlt:k<n
  ·obtain⟨b,o,z,hA,hbl,hz,hcell⟩:=dQ HR.s hlt;obtain⟨rfl,rfl⟩:b0=b/\o0=o:=by simpa using hA
   have HX2:=uT (zZn zs k z hz);clear hz hA;have HX3:=uT (show(zs.take (k+1)).any zAd=(zAd m||zAd z)by rw[HX2.s,<-HX.s]);clear HX HX2;rcases Int.lt_or_le m z with hmz|hmz
   ·have HX4:=uT (show zAd z=(zs.take (k+1)).any zAd by rw[HX3.s];unfold zAd;by_cases hb:1048576<m<;>simp[hb];omega);clear HX3;go_wp2_with fail;exact⟨⟨k+1,_,by omega,by omega,by go_num,rfl,HX4,trivial⟩,by simp[intOf];omega⟩
   ·have HX4:=uT (show zAd m=(zs.take (k+1)).any zAd by rw[HX3.s];unfold zAd;by_cases hb:1048576<m<;>simp[hb];omega);clear HX3;go_wp2_with fail;exact⟨⟨k+1,_,by omega,by omega,by go_num,rfl,HX4,trivial⟩,by simp[intOf];omega⟩
  ·obtain rfl:k=n:=by omega
   have HF:=uT (show zAd m=zs.any zAd by have h:=HX.s;rw[qS (by rw[HL.s];exact qA _)]at h;exact h)
   clear HX;go_wp2_with fail;go_ret;exact⟨m,rfl,HF,rfl⟩
theorem zKg(ws bs:List Int)(h:(dE ws bs).2=0):(dE ws bs).1.length=ws.length:=by
 unfold dE at h⊢
 split at h
 ·rename_i h1;exact absurd h h1
 ·rename_i h1;rw[if_neg h1]
  split at h
  ·simp at h
  ·rename_i h2;rw[if_neg h2]
   split at h
   ·rename_i h3;rw[if_pos h3];exact zHv bs ws 0
   ·simp at h
def dA(c:Cfg)(bs:List Int):List Int×Int:=
 if bG c=false then([],4)else if(dE (List.replicate c.mi.zs.length 21) bs).2≠0 then([],4)else if(dE (List.replicate c.mi.zs.length 21) bs).1.any zAd then([],4)else((dE (List.replicate c.mi.zs.length 21) bs).1,0)
def zAj(c:Cfg)(bs:List Int)(e:Ending)(w w':World):Prop:=
 ∃v:Value,e= .returned (.tuple #[v,.int .i64 (dA c bs).2])/\w'.ownsRow w.heap.size 3 1 v (dA c bs).1.length ((dA c bs).1.map (.int .i64))/\uR w w'
theorem zVq(c:Cfg)(bA:Option Addr)(bn bc:Nat)(bs:List Int)(B:Nat)(w:World)(hc:c.ok w B)(hbl:bs.length=bn)(hbn:bn<=bc)(hbm:bc<=maxLen)(hbr:Reads w B 1 bA bn (bs.map (.int .u8)))(hbz:∀z∈bs,0<=z/\z<=255)(hB:B<=w.heap.size):Calls prog 86 #[c.val,.slice bA bn bc] w λe w'=>zAj c bs e w w':=by
 obtain⟨HMY,HBR⟩:=uI (λW (hW:uR w W)=>zCh c B W (hc.below (hW.mono hB)) (qN hB hW.size)) (λW (hW:uR w W)=>((hbr.below (hW.mono hB)).more (qN hB hW.size)));have hbn9:bn<=9223372036854775807:=by unfold maxLen at hbm;omega
 have hmn:=hc.2.1.1;have hmc:=hc.2.1.2.1;have hmm:=hc.2.1.2.2.1;obtain⟨br,⟨lA,ln,lc,ls⟩,tk,⟨mA,mn,mc,ms⟩,cap⟩:=c;unfold Cfg.val at HMY⊢;dsimp only at HMY hmn hmc hmm⊢;have HMN:=uT hmn;have hmnb:mn<=9223372036854775807:=by unfold maxLen at hmm;omega
 obtain⟨wx,hwx⟩:=kB (w.alloc (.cells #[.int .i64 br,.slice lA ln lc,.int .i64 tk,.slice mA mn mc,.int .i64 cap] 24));have hbx:=uH hwx;have hsx:w.heap.size<wx.heap.size:=by rw[hwx];simp
 have hnew:=Blk.new w 24 #[.int .i64 br,.slice lA ln lc,.int .i64 tk,.slice mA mn mc,.int .i64 cap];rw[<-hwx]at hnew;have c0:∀W,uR wx W->W.cell? ⟨w.heap.size,0,none⟩=some (.int .i64 br):=λW hW=>(Blk.below hnew hW hsx).cell 0
 have c1:∀W,uR wx W->W.cell? ⟨w.heap.size,1,none⟩=some (.slice lA ln lc):=λW hW=>(Blk.below hnew hW hsx).cell 1
 have c2:∀W,uR wx W->W.cell? ⟨w.heap.size,2,none⟩=some (.int .i64 tk):=λW hW=>(Blk.below hnew hW hsx).cell 2
 have c3:∀W,uR wx W->W.cell? ⟨w.heap.size,3,none⟩=some (.slice mA mn mc):=λW hW=>(Blk.below hnew hW hsx).cell 3
 have c4:∀W,uR wx W->W.cell? ⟨w.heap.size,4,none⟩=some (.int .i64 cap):=λW hW=>(Blk.below hnew hW hsx).cell 4
 have hz0:uR wx wx:=qC _ _;obtain⟨HMY',HBX,HWX,HBL,HBZ⟩:=uL (HMY.s wx hbx) hbx hwx hbl hbz;clear hbx hwx hnew hsx hmn HMY hc hbl hbr hbz;cases hcf:bG ⟨br,⟨lA,ln,lc,ls⟩,tk,⟨mA,mn,mc,ms⟩,cap⟩with
 |false=>have HG:=uT (show dA ⟨br,⟨lA,ln,lc,ls⟩,tk,⟨mA,mn,mc,ms⟩,cap⟩ bs=([],4)by unfold dA;rw[hcf];rfl);rw[hcf]at HMY';clear hcf;go_enter func86,ntmps86;go_wp2_with fail;rw[<-HWX.s];refine HMY'.s.mono ?_;rintro _ w1 ⟨rfl,hb1⟩;have HB:=uT (HBX.s.trans (hb1.mono HBX.s.size));clear hb1;go_wp2_with fail;go_ret2;unfold zAj;rw[HG.s];exact⟨_,rfl,qH _ _ _ _,HB.s⟩
 |true=>
  rw[hcf]at HMY';have hn3:1<=mn/\mn<=3:=by have h:=hcf;simp[bG,inB]at h;have h2:=HMN.s;omega
  obtain⟨hn1,hn3⟩:=hn3;have HQ:=uT (show dA ⟨br,⟨lA,ln,lc,ls⟩,tk,⟨mA,mn,mc,ms⟩,cap⟩ bs=(if(dE (List.replicate mn 21) bs).2≠0 then([],4)else if(dE (List.replicate mn 21) bs).1.any zAd then([],4)else((dE (List.replicate mn 21) bs).1,0))by unfold dA;rw[hcf];dsimp only;rw[if_neg (by simp),HMN.s]);clear hcf;obtain⟨R,hR⟩:∃R,dA ⟨br,⟨lA,ln,lc,ls⟩,tk,⟨mA,mn,mc,ms⟩,cap⟩ bs=R:=⟨_,rfl⟩;rw[hR]at HQ;have HRR:=uT hR;clear hR;go_enter func86,ntmps86;go_wp2_with fail;rw[<-HWX.s];refine HMY'.s.mono ?_;rintro _ w1 ⟨rfl,hb1⟩;have hz1:uR wx w1:=hb1;have HB1:=uT (HBX.s.trans (hb1.mono HBX.s.size));obtain⟨wy,hwy⟩:=kB (w1.alloc (.cells #[.int .i64 21] 3));have hby:=uH hwy;have hsy:w1.heap.size<wy.heap.size:=by rw[hwy];simp
  have hzy:uR wx (w1.alloc (.cells #[.int .i64 21] 3)):=by rw[<-hwy];exact hz1.trans (hby.mono hz1.size)
  have hcy:=(Blk.new w1 3 #[.int .i64 21]).cell 0;have c3y:=c3 _ hzy;obtain⟨HRP,HBY,HWY⟩:=uJ (zLi 21 mn w1.heap.size 1 wy hn1 (by omega) hsy (by rw[hwy];exact hcy)) (HB1.s.trans (hby.mono HB1.s.size)) hwy;clear hb1 hby hwy hsy hcy;go_wp2_with fail;rw[<-HWY.s];refine HRP.s.mono ?_;rintro _ w2 ⟨u,rfl,hou,hb2⟩;obtain⟨uA,uc,rfl,huc⟩:=bE hou;have HB2:=uT (HBY.s.trans (hb2.mono HBY.s.size));have HUP:=uT (zLb uA mn uc (List.replicate mn 21) bA bn bc bs w2 (by simp) (by omega) (Reads.of_own hou) HBL.s hbn9 hbn (HBR.s w2 HB2.s) HBZ.s);clear hou hb2;go_wp2_with fail;refine HUP.s.mono ?_;rintro _ w3 ⟨v,rfl,ho3,hb3⟩;have HLEN:=uT (zKg (List.replicate mn 21) bs);rw[jB]at HLEN;generalize dE (List.replicate mn 21) bs=U at*;obtain⟨us,ue⟩:=U;dsimp only at*;have HB3:=uT (HB2.s.trans (hb3.mono HB2.s.size));have HS2:=uT HB2.s.size;obtain⟨vA,vc,rfl,hvc⟩:=bE ho3;by_cases hue:ue=0
  rotate_left
  ·have e1:(ue !=0)=true:=by simp[hue]
   have HG:=uT (show R=([],4)by rw[HQ.s,if_pos hue]);clear ho3 hb3;go_wp2_with fail;go_ret2;unfold zAj;rw[HRR.s,HG.s];exact⟨_,rfl,qH _ _ _ _,HB3.s⟩
  subst hue;have hlen:us.length=mn:=HLEN.s rfl;rw[hlen]at ho3;obtain⟨HMX,HO3⟩:=uI (max_any vA mn vc us _ w3 hlen (by omega) (by omega) (Reads.of_own ho3)) ho3;clear ho3 hb3;go_wp2_with fail;refine HMX.s.mono ?_;rintro _ _ ⟨m,rfl,HBG,rfl⟩;by_cases hbg:1048576<m
  ·have HG:=uT (show R=([],4)by rw[HQ.s,if_neg (by simp),<-HBG.s,if_pos (by unfold zAd;simp[hbg])]);go_wp2_with fail;go_ret2;unfold zAj;rw[HRR.s,HG.s];exact⟨_,rfl,qH _ _ _ _,HB3.s⟩
  ·have HG:=uT (show R=(us,0)by rw[HQ.s,if_neg (by simp),<-HBG.s,if_neg (by unfold zAd;simp;omega)]);have hbg2:m<=1048576:=by omega
   go_wp2_with fail;go_ret2;unfold zAj;rw[HRR.s,HG.s];refine⟨_,rfl,?_,HB3.s⟩;dsimp only;rw[hlen];exact World.ownsRow.mono HO3.s HS2.s
theorem zVn(c:Cfg)(bA:Option Addr)(bn bc:Nat)(bs:List Int)(B:Nat)(w:World)(hc:c.ok w B)(hbl:bs.length=bn)(hbn:bn<=bc)(hbm:bc<=maxLen)(hbr:Reads w B 1 bA bn (bs.map (.int .u8)))(hbz:∀z∈bs,0<=z/\z<=255)(hB:B<=w.heap.size):Calls prog 72 #[c.val,.slice bA bn bc] w λe w'=>zAj c bs e w w':=by
 obtain⟨HMY,HBR⟩:=uI (λW (hW:uR w W)=>zBr c B W (hc.below (hW.mono hB)) (qN hB hW.size)) (λW (hW:uR w W)=>((hbr.below (hW.mono hB)).more (qN hB hW.size)));have hbn9:bn<=9223372036854775807:=by unfold maxLen at hbm;omega
 have hmn:=hc.2.1.1;have hmc:=hc.2.1.2.1;have hmm:=hc.2.1.2.2.1;obtain⟨br,⟨lA,ln,lc,ls⟩,tk,⟨mA,mn,mc,ms⟩,cap⟩:=c;unfold Cfg.val at HMY⊢;dsimp only at HMY hmn hmc hmm⊢;have HMN:=uT hmn;have hmnb:mn<=9223372036854775807:=by unfold maxLen at hmm;omega
 obtain⟨wx,hwx⟩:=kB (w.alloc (.cells #[.int .i64 br,.slice lA ln lc,.int .i64 tk,.slice mA mn mc,.int .i64 cap] 24));have hbx:=uH hwx;have hsx:w.heap.size<wx.heap.size:=by rw[hwx];simp
 have hnew:=Blk.new w 24 #[.int .i64 br,.slice lA ln lc,.int .i64 tk,.slice mA mn mc,.int .i64 cap];rw[<-hwx]at hnew;have c0:∀W,uR wx W->W.cell? ⟨w.heap.size,0,none⟩=some (.int .i64 br):=λW hW=>(Blk.below hnew hW hsx).cell 0
 have c1:∀W,uR wx W->W.cell? ⟨w.heap.size,1,none⟩=some (.slice lA ln lc):=λW hW=>(Blk.below hnew hW hsx).cell 1
 have c2:∀W,uR wx W->W.cell? ⟨w.heap.size,2,none⟩=some (.int .i64 tk):=λW hW=>(Blk.below hnew hW hsx).cell 2
 have c3:∀W,uR wx W->W.cell? ⟨w.heap.size,3,none⟩=some (.slice mA mn mc):=λW hW=>(Blk.below hnew hW hsx).cell 3
 have c4:∀W,uR wx W->W.cell? ⟨w.heap.size,4,none⟩=some (.int .i64 cap):=λW hW=>(Blk.below hnew hW hsx).cell 4
 have hz0:uR wx wx:=qC _ _;obtain⟨HMY',HBX,HWX,HBL,HBZ⟩:=uL (HMY.s wx hbx) hbx hwx hbl hbz;clear hbx hwx hnew hsx hmn HMY hc hbl hbr hbz;cases hcf:bG ⟨br,⟨lA,ln,lc,ls⟩,tk,⟨mA,mn,mc,ms⟩,cap⟩with
 |false=>have HG:=uT (show dA ⟨br,⟨lA,ln,lc,ls⟩,tk,⟨mA,mn,mc,ms⟩,cap⟩ bs=([],4)by unfold dA;rw[hcf];rfl);rw[hcf]at HMY';clear hcf;go_enter func72,ntmps72;go_wp2_with fail;rw[<-HWX.s];refine HMY'.s.mono ?_;rintro _ w1 ⟨rfl,hb1⟩;have HB:=uT (HBX.s.trans (hb1.mono HBX.s.size));clear hb1;go_wp2_with fail;go_ret2;unfold zAj;rw[HG.s];exact⟨_,rfl,qH _ _ _ _,HB.s⟩
 |true=>
  rw[hcf]at HMY';have hn3:1<=mn/\mn<=3:=by have h:=hcf;simp[bG,inB]at h;have h2:=HMN.s;omega
  obtain⟨hn1,hn3⟩:=hn3;have HQ:=uT (show dA ⟨br,⟨lA,ln,lc,ls⟩,tk,⟨mA,mn,mc,ms⟩,cap⟩ bs=(if(dE (List.replicate mn 21) bs).2≠0 then([],4)else if(dE (List.replicate mn 21) bs).1.any zAd then([],4)else((dE (List.replicate mn 21) bs).1,0))by unfold dA;rw[hcf];dsimp only;rw[if_neg (by simp),HMN.s]);clear hcf;obtain⟨R,hR⟩:∃R,dA ⟨br,⟨lA,ln,lc,ls⟩,tk,⟨mA,mn,mc,ms⟩,cap⟩ bs=R:=⟨_,rfl⟩;rw[hR]at HQ;have HRR:=uT hR;clear hR;go_enter func72,ntmps72;go_wp2_with fail;rw[<-HWX.s];refine HMY'.s.mono ?_;rintro _ w1 ⟨rfl,hb1⟩;have hz1:uR wx w1:=hb1;have HB1:=uT (HBX.s.trans (hb1.mono HBX.s.size));clear hb1;obtain⟨i0,hi,hz0',hz1',hz2'⟩:=info_parts zIy;go_wp2_with fail
  go_loopw [6,17] (λv i wr=>∃(k:Nat),k<=mn/\i= .int .i64 k/\wr.ownsRow w.heap.size 3 1 v k ((List.replicate k (21:Int)).map (.int .i64))/\uR w wr) (λ_ i _=>mn-(intOf i).toNat)
  case atStart=>exact⟨0,qL _,rfl,qH _ _ _ _,HB1.s⟩
  case round=>
   obtain⟨k,hk,rfl,hown,hb⟩:=hrel;by_cases hlt:k<mn
   ·obtain⟨HB,HO⟩:=uI hb hown;have hmb:(k+1)*8<=140737488355328:=by omega
    have hsz:=hb.size;clear hb hown hz1 hz0;go_wp2_with(first
     |(at_builtin;(refine bF _ rfl (.tmp 19) (.tmp 20) _ rfl w.heap.size 3 i0 _ 1 8 underlying22 hi hz0' hz1' hz2' rfl (by omega) (by omega) _ _ _ HO.s rfl _ 1 _ rfl rfl rfl (by simp[Value.oneCell']) hmb (by omega) ?_);intro g cap w4 hg4 hown4 hbel4 _ _))
    go_roundw
    case rel=>refine⟨k+1,by omega,by go_num,?_,hbel4 _ _ (qA _) HB.s⟩;rw[List.replicate_succ',jA];exact hown4
    case measure=>simp[intOf];omega
   ·obtain rfl:k=mn:=by omega
    obtain⟨uA,uc,rfl,huc⟩:=bE hown;obtain⟨HB2,HUP⟩:=uI hb (zTg uA k uc (List.replicate k 21) bA bn bc bs wr (by simp) (by omega) (Reads.of_own hown) HBL.s hbn9 hbn (HBR.s wr hb) HBZ.s);clear hown hb hz1 hz0;go_wp2_with fail;refine HUP.s.mono ?_;rintro _ w3 ⟨v,rfl,ho3,hb3⟩;have HLEN:=uT (zKg (List.replicate k 21) bs);rw[jB]at HLEN;generalize dE (List.replicate k 21) bs=U at*;obtain⟨us,ue⟩:=U;dsimp only at*;have HB3:=uT (HB2.s.trans (hb3.mono HB2.s.size));have HS2:=uT HB2.s.size;obtain⟨vA,vc,rfl,hvc⟩:=bE ho3;by_cases hue:ue=0
    rotate_left
    ·have e1:(ue !=0)=true:=by simp[hue]
     have HG:=uT (show R=([],4)by rw[HQ.s,if_pos hue]);clear ho3 hb3;go_wp2_with fail;go_ret2;unfold zAj;rw[HRR.s,HG.s];exact⟨_,rfl,qH _ _ _ _,HB3.s⟩
    subst hue;have hlen:us.length=k:=HLEN.s rfl;rw[hlen]at ho3;obtain⟨HRU,HO3⟩:=uI (Reads.of_own ho3) ho3;clear ho3 hb3;go_wp2_with fail
    go_loopw [33] (λi wr=>∃(j:Nat),j<=k/\i= .int .i64 j/\uS ((us.drop j).any zAd=us.any zAd)/\w3=wr) (λi _=>k-(intOf i).toNat)
    case atStart=>exact⟨0,qL _,rfl,rfl,rfl⟩
    case round=>
     obtain⟨j,hj,rfl,HX,rfl⟩:=hrel;by_cases hlt2:j<k
     ·obtain⟨b,o,z,rfl,hbl,hz,hcell⟩:=dQ HRU.s hlt2;have HX2:=uT (by have h:=HX.s;rw[cZ us j z hz,List.any_cons]at h;exact h);clear HX hz;by_cases hbg:1048576<z
      ·have HG:=uT (show R=([],4)by rw[HQ.s,if_neg (by simp),<-HX2.s,if_pos (by simp[zAd,hbg])]);clear HX2;go_wp2_with fail;go_ret2;unfold zAj;rw[HRR.s,HG.s];exact⟨_,rfl,qH _ _ _ _,HB3.s⟩
      ·have HX3:=uT (show(us.drop (j+1)).any zAd=us.any zAd by rw[<-HX2.s];simp[zAd,hbg]);have hbg2:z<=1048576:=by omega
       clear HX2;go_wp2_with fail;go_roundw
       case rel=>exact⟨j+1,by omega,by go_num,HX3,trivial⟩
       case measure=>simp[intOf];omega
     ·obtain rfl:j=k:=by omega
      have HG:=uT (show R=(us,0)by have h:=HX.s;rw[qW (by rw[hlen];exact qA _)]at h;rw[HQ.s,if_neg (by simp),<-h];rfl)
      clear HX;go_wp2_with fail;go_ret2;unfold zAj;rw[HRR.s,HG.s];refine⟨_,rfl,?_,HB3.s⟩;dsimp only;rw[hlen];exact World.ownsRow.mono HO3.s HS2.s
section
open Go.RowKit Go.ChangeShapes Go.WideShapes Go.Deep
theorem zXs(c:Cfg)(a b:Int)(bA:Option Addr)(bn bc:Nat)(bs:List Int)(B:Nat)(w:World)(hc:c.ok w B)(hB:B<=w.heap.size)(hbl:bs.length=bn)(hbn:bn<=bc)(hbm:bc<=maxLen)(hbr:Reads w B 1 bA bn (bs.map (.int .u8)))(hbz:∀z∈bs,0<=z/\z<=255):Calls prog 73 #[c.val,.int .i64 a,.int .i64 b,.slice bA bn bc] w (zDg (dI c a b bs) w):=by
 by_cases h:bG c=true/\(cG c a=true/\cG c b=true)
 ·obtain⟨h1,h2⟩:=h;have ha:0<=a:=by have:=h2.1;unfold cG at this;simp at this;omega
  have hb:0<=b:=by have:=h2.2;unfold cG at this;simp at this;omega
  obtain⟨a,rfl⟩:=qP ha;obtain⟨b,rfl⟩:=qP hb;exact zWp c a b bA bn bc bs B w hc hB hbl hbn hbm hbr hbz h1 h2
 ·exact zTi c a b bA bn bc bs B w hc hB h
theorem yAz(c:Cfg)(a b:Int)(bs:List Int):∀l∈(dI c a b bs).1,l.length<=8:=by
 intro l hl;unfold dI at hl
 split at hl
 ·cases hl
 split at hl
 ·cases hl
 split at hl
 ·cases hl
 split at hl
 ·dsimp only at hl;obtain⟨i,hi⟩:=jY.1 hl;obtain⟨is,his⟩:=kB (bM a.toNat b.toNat c.la.zs 0);rw[<-his]at hi;have hnd:is.Nodup:=by rw[his];exact zDf _ _ _ _
  have hlt:∀i∈is,i<c.la.zs.length:=λi hi=>by rw[his]at hi;have:=zCp _ _ _ _ i hi;omega
  obtain⟨h1,h2⟩:=zFt bs is c.la.zs.length is.length rfl hnd hlt (8*is.length) (qA _);have hg:(dL bs is c.la.zs.length (8*is.length)).getD i []=l:=by rw[qG,hi];rfl
  by_cases hin:i∈is
  ·obtain⟨p,hp⟩:=jY.1 hin;rw[<-hg,h1 p i hp];exact qN (zFg _ _ _) (Nat.min_le_left _ _)
  ·rw[<-hg,h2 i hin];simp
 ·cases hl
end
end Go.Proofs.YtbolcebmbpepdaaGreatDoor
