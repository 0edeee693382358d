/- Contracts. Conditions: those each states. -/
import Derived.Test.YtbolcebmbpepdaaGreatDoorM03
namespace Go.Proofs.YtbolcebmbpepdaaGreatDoor
set_option maxRecDepth 100000
set_option maxHeartbeats 8000000
set_option linter.all false
open Go.RowKit Tryz
def gU(l:List Nat):List Value:=l.map λb:Nat=>Value.int .i64 (b:Int)
theorem zMm(l:List Nat)(b:Nat):gU (l++[b])=gU l++[.int .i64 b]:=by simp[gU]
def BitsOwn(W w:World)(v:Value)(bs:List Nat):Prop:=(∃A c,v= .slice A bs.length c/\bs.length<=c)/\w.ownsRow W.heap.size 3 1 v bs.length (gU bs)/\uR W w
theorem BitsOwn.alloc{W w:World}{v:Value}{bs:List Nat}(H:BitsOwn W w v bs)(o:Obj):BitsOwn W (w.alloc o) v bs:=⟨H.1,H.2.1.alloc o,H.2.2.alloc H.2.2.size o⟩
theorem BitsOwn.drewN{W w:World}{v:Value}{bs:List Nat}(H:BitsOwn W w v bs)(n:Nat):BitsOwn W (w.drewN n) v bs:=⟨H.1,H.2.1,below_drewN H.2.2 n⟩
def zGh(bs:List Nat)(m:Nat):List Nat:=bs++List.replicate (m-bs.length) 0
theorem yId(bs:List Nat)(m:Nat)(h:bs.length<=m):(zGh bs m).length=m:=by simp[zGh];omega
theorem yDe(bs:List Nat):zGh bs bs.length=bs:=by simp[zGh]
theorem yCy(bs:List Nat)(m:Nat)(h:bs.length<=m):zGh bs (m+1)=zGh bs m++[0]:=by unfold zGh;rw[show m+1-bs.length=(m-bs.length)+1 by omega,List.replicate_succ',jK]
theorem padTo_le(bs:List Nat)(m:Nat)(h:∀b∈bs,b<=1):∀b∈zGh bs m,b<=1:=by
 intro b hb;rcases jI.1 hb with hb|hb
 ·exact h b hb
 ·rw[jT hb];omega
theorem yDg(bs:List Nat)(m i:Nat):byteOf (zGh bs m) i=byteOf bs i:=yAy bs _ _ _
def zQg(W w:World)(v:Value)(n:Nat)(bs:List Nat):Prop:=(∃A c,v= .slice A n c/\n<=c)/\w.ownsRow W.heap.size 3 1 v n (gU bs)/\uR W w
theorem zEa{w:World}{base:Nat}{e:TypeId}{size n:Nat}{v:Value}{xs:List Value}{g:Nat}{t:TypeId}{cs:Array Value}(h:w.ownsRow base e size v n xs)(hg:Blk w g t cs)(hne:e≠t):some g≠v.ownBlock:=
 λhe=>bC h hg hne he.symm
theorem zNz(A:Option Addr)(n c:Nat)(fs:List (Int×Int))(w:World)(hl:fs.length=n)(hm:n*16<=140737488351232)(hr:Reads w w.heap.size 2 A n (fs.flatMap gL)):Calls prog 93 #[.slice A n c] w (zZj fs w):=by
 obtain⟨i0,hi,hz0,hz1,hz2⟩:=info_parts zIy;obtain⟨i8,hi8,hz80,hz81,hz82⟩:=info_parts yCh;have HR:=uT hr;clear hr;have HL:=uT hl;clear hl;go_enter func93,ntmps93;go_wp2_with fail
 go_loopw [4,20] (λv i wr=>∃(k:Nat),k<=n/\i= .int .i64 k/\wr.ownsRow w.heap.size 3 1 v k (zJi fs k)/\uR w wr) (λ_ i _=>n-(intOf i).toNat)
 case atStart=>exact⟨0,qL _,rfl,qH _ _ _ _,qC _ _⟩
 case round=>
  obtain⟨k,hk,rfl,hown,hb⟩:=hrel;by_cases hlt:k<n
  ·obtain⟨b,o,f,rfl,hab,hf,hc⟩:=fB zDd (by omega) (HR.s.below hb) hlt HL.s;have c0:wr.cell? ⟨b,o+k*2,none⟩=some (.int .i64 f.1):=hc 0 _ rfl;have c1:wr.cell? ⟨b,o+k*2+1,none⟩=some (.int .i64 f.2):=hc 1 _ rfl;have HF:=uT hf;clear hc hf;have hsz:=hb.size;go_wp2_with(first
    |(at_builtin;(refine bF _ rfl (.tmp 24) (.tmp 27) _ rfl w.heap.size 3 i0 _ 1 8 underlying22 hi hz0 hz1 hz2 rfl (by omega) (by omega) _ _ _ (hown.alloc _) rfl _ 1 _ rfl (by simp) rfl (by simp[Value.oneCell']) (by omega) (by omega) ?_);intro g cap w1 hg hown1 hbel1 _ _))
   go_roundw
   case rel=>exact⟨k+1,by omega,by go_num,by rw[zOq fs k f HF.s];exact hown1,hbel1 _ _ (qA _) (hb.alloc hsz _)⟩
   case measure=>simp[intOf];omega
  ·obtain rfl:k=n:=by omega
   obtain⟨Aw,cw,rfl,hcw⟩:=bE hown;have hrw:Reads wr wr.heap.size 1 Aw k ((fs.map (·.1)).map (Value.int .i64)):=by rw[<-zRw fs,HL.s];exact Reads.of_own hown
   have HC:=uT (zNo Aw k cw (fs.map (·.1)) _ wr (by rw[qQ];exact HL.s) (by omega) hrw);clear hrw;have HW:=uT (And.intro hown hb);have hsz:=hb.size;clear hown hb;rcases zHg (fs.map (·.1))with hs|hs|⟨N,hs,h40,hw60,hN⟩
   ·obtain⟨HC2,HP⟩:=uI (by have h:=HC.s;rw[hs]at h;exact h) (show gM fs=([],1)by unfold gM;rw[hs];rfl);clear HC hs;go_wp2_with fail;refine HC2.s.mono ?_;rintro e w' ⟨rfl,rfl⟩;go_wp2_with fail;go_ret2;exact⟨_,by rw[HP.s];rfl,by rw[HP.s];exact⟨qH _ _ _ _,HW.s.2⟩⟩
   ·obtain⟨HC2,HP⟩:=uI (by have h:=HC.s;rw[hs]at h;exact h) (show gM fs=([],2)by unfold gM;rw[hs];rfl);clear HC hs;go_wp2_with fail;refine HC2.s.mono ?_;rintro e w' ⟨rfl,rfl⟩;go_wp2_with fail;go_ret2;exact⟨_,by rw[HP.s];rfl,by rw[HP.s];exact⟨qH _ _ _ _,HW.s.2⟩⟩
   ·obtain⟨HC2,HP⟩:=uI (by have h:=HC.s;rw[hs]at h;exact h) (show gM fs=if fs.all zBp then(bytesOf (bH fs) N,0)else([],12)by unfold gM;rw[hs];simp);rw[<-zFc]at hN;have hN2:8*N<=(bH fs).length+7:=by omega
    have hN3:(bH fs).length<=8*N:=by omega
    have hk40:k<=40:=by rw[qQ,HL.s]at h40;exact h40
    have hN4:N<=300:=by have:=zSe (fs.map (·.1)) hw60;rw[<-zFc]at this;omega
    have HW60:=uT hw60;clear HC hs hN h40 hw60;go_wp2_with fail;refine HC2.s.mono ?_;rintro e w' ⟨rfl,rfl⟩;go_wp2_with fail;obtain⟨wo,rfl⟩:=kB wr
    go_loopw [9,40] (λv i wx=>∃(j:Nat),j<=k/\i= .int .i64 j/\BitsOwn w wx v (bH (fs.take j))/\uS ((fs.take j).all zBp=true)) (λ_ i _=>k-(intOf i).toNat)
    case atStart=>exact⟨0,qL _,rfl,⟨⟨none,0,rfl,qA _⟩,qH _ _ _ _,HW.s.2⟩,rfl⟩
    case round=>
     obtain⟨j,hj,rfl,HA,HO⟩:=hrel;have HA':=uT HA;have hszx:=HA.2.2.size;by_cases hlt2:j<k
     ·obtain⟨b,o,f,rfl,hab,hf,hc⟩:=fB zDd (by omega) (HR.s.below HA.2.2) hlt2 HL.s;obtain⟨wd,v⟩:=f;have hwd:=HW60.s wd (jC.2 ⟨_,qB hf,rfl⟩);obtain⟨wd,rfl⟩:=qP (show 0<=wd by omega);have hwd1:1<=wd:=by omega
      have hwd2:wd<=60:=by omega
      have c0:wr.cell? ⟨b,o+j*2,none⟩=some (.int .i64 wd):=hc 0 _ rfl;have c1:wr.cell? ⟨b,o+j*2+1,none⟩=some (.int .i64 v):=hc 1 _ rfl;have HF:=uT hf;have hlenj:=zJn fs (j+1);rw[zGc fs j _ hf,qM,gP]at hlenj;simp only[qR]at hlenj;have HLJ:=uT hlenj;clear hc hf hwd HA hlenj;have HNO:zBp ((wd:Int),v)=false->uS (gM fs=([],12)):=by
       intro hno;have:fs.all zBp=false:=by rw[List.all_eq_false];exact⟨_,qB HF.s,by rw[hno];simp⟩
       exact uT (by rw[HP.s,this];rfl)
      by_cases hv0:v<0
      ·have HQ:=HNO (by simp[zBp];omega);clear HNO;have hd:decide (v<0)=true:=by simpa using hv0
       go_wp2_with fail;go_quiet (fail);go_wp2_with fail;go_ret2;exact⟨_,by rw[HQ.s];rfl,by rw[HQ.s];exact⟨qH _ _ _ _,below_drewN (HA'.s.2.2.alloc hszx _) _⟩⟩
      ·obtain⟨v,rfl⟩:=qP (show 0<=v by omega);have hd:decide ((v:Int)<0)=false:=by simp
       clear hv0;have hp60:=zGl hwd2;have hp60':(0:Int)<=(2:Int)^wd/\(2:Int)^wd<=1152921504606846976:=by
        have h1:((2^wd:Nat):Int)<=1152921504606846976:=by omega
        have h0:(0:Int)<=((2^wd:Nat):Int):=Int.natCast_nonneg _;simpa using And.intro h0 h1
       by_cases hfit:v<2^wd
       ·have hfit':¬ ((2:Int)^wd<=(v:Int)):=by
         have:((v:Nat):Int)<((2^wd:Nat):Int):=by omega
         simpa using this
        have hfd:decide ((2:Int)^wd<=(v:Int))=false:=decide_eq_false hfit';clear HNO;have HFIT:=uT hfit;clear hfit;go_wp2_with fail;go_quiet (fail);go_wp2_with fail;obtain⟨wz,rfl⟩:=kB wr;have hv9:v<=9223372036854775807:=by have:=HFIT.s;omega
        go_loopw [9,12] (λq9 q wy=>∃(t:Nat),t<=wd/\q= .int .i64 ((t:Int)+1)/\BitsOwn w wy q9 (bH (fs.take j)++(cT ((wd:Int),(v:Int))).take t)/\
            Blk wy wz.heap.size 179 #[.int .i64 wd,.int .i64 v]) (λ_ q _=>wd+1-(intOf q).toNat)
        case atStart=>exact⟨0,qL _,by simp,by simpa using(HA'.s.alloc _).drewN _,(Blk.new wz _ _).drewN _⟩
        case round=>
         obtain⟨t,ht,rfl,HPA,HB⟩:=hrel;by_cases htl:t<wd
         ·have b0:wr.cell? ⟨wz.heap.size,0,none⟩=some (.int .i64 wd):=by rw[HB.cell];rfl
          have b1:wr.cell? ⟨wz.heap.size,1,none⟩=some (.int .i64 v):=by rw[HB.cell];rfl
          have HBH:=uT HB;have hbl:(bH (fs.take j)++(cT ((wd:Int),(v:Int))).take t).length<=2400:=by rw[qM,qY,gP];have:=HLJ.s;simp only[qR];omega
          have HSN:=uT (zKq wd v t htl);obtain⟨bs,hbs⟩:=kB (bH (fs.take j)++(cT ((wd:Int),(v:Int))).take t);rw[<-hbs]at hbl HPA;obtain⟨HBS,HPH⟩:=uI hbs HPA;have hszy:=HPA.2.2.size;clear HPA HB hbs;obtain⟨d,hd1⟩:∃d,wd-1-t=d:=⟨_,rfl⟩;have e1:IntKind.i64.wrap ((wd:Int)-((t:Int)+1))=(d:Int):=by rw[IntWalk.i64_in _ (by omega)];omega
          have hd60:d<=59:=by omega
          have HD:=uT hd1;clear hd1;have hpd:1<=2^d/\2^d<=1152921504606846976:=⟨Nat.pow_pos (by omega),zGl (by omega)⟩;have hpd':(1:Int)<=(2:Int)^d/\(2:Int)^d<=1152921504606846976:=by
           have h1:((2^d:Nat):Int)<=1152921504606846976:=by omega
           have h0:(1:Int)<=((2^d:Nat):Int):=by omega
           simpa using And.intro h0 h1
          have e2:IntKind.i64.wrap ((2:Int)^d)=(2:Int)^d:=IntWalk.i64_in _ (by omega);have e3:¬ (2:Int)^d=0:=by omega
          have hvd:v/2^d<=v:=Nat.div_le_self _ _;have ev:((v:Int)/2^d)=((v/2^d:Nat):Int):=by simp
          have e4:IntKind.i64.wrap ((v:Int)/(2:Int)^d)=(v:Int)/(2:Int)^d:=by have h0:(0:Int)<=((v/2^d:Nat):Int):=Int.natCast_nonneg _;have h1:((v/2^d:Nat):Int)<=(v:Int):=Int.ofNat_le.2 hvd;rw[ev];exact IntWalk.i64_in _ (by omega)
          have E5:=uT (show((v:Int)/2^d).tmod 2=((v/2^d%2:Nat):Int)by rw[ev,Int.tmod_eq_emod_of_nonneg (Int.natCast_nonneg _)];rfl);clear hvd ev;go_wp2_with fail
          go_region_law (refine zQx _ rfl (.tmp 61) (.tmp 71) _ rfl w.heap.size 3 i0 _ 1 8 underlying22 hi hz0 hz1 hz2 rfl (by omega) (by omega) _ _ _ (HPH.s.2.1.drew) rfl _ 1 _ rfl (by simp) rfl (by simp[Value.oneCell']) (by omega) (by omega) ?_;intro g cap w1 hg hown1 hbel1 hgr1 hat1)
          all_goals
           clear e1 e2 e3 e4 hpd hpd' hd60;have HBN:=uT (show Blk w1 wz.heap.size 179 #[.int .i64 wd,.int .i64 v]from HBH.s.drew.grown hgr1 (zEa HPH.s.2.1 HBH.s (by decide)));have HON:=uT (show BitsOwn w w1 (.slice (some ⟨g,0,none⟩) (bs.length+1) cap) (bH (fs.take j)++(cT ((wd:Int),(v:Int))).take (t+1))by
            have e:bH (fs.take j)++(cT ((wd:Int),(v:Int))).take (t+1)=bs++[v/2^d%2]:=by rw[HSN.s,<-jK,<-HBS.s,HD.s]
            rw[e];have h:=hown1;simp only[E5.s]at h;refine⟨⟨_,cap,by rw[qM];rfl,?_⟩,?_,hbel1 _ _ (qA _) HPH.s.2.2.drew⟩
            ·rcases bE hown1 with⟨_,_,e0,hc0⟩;injection e0 with _ _ e0;subst e0;rw[qM];exact hc0
            ·rw[zMm,qM];exact h)
           clear hown1 hbel1 hgr1 hat1;go_wp2_with fail;go_roundw
           case rel=>exact⟨t+1,by omega,by go_num,HON.s,HBN.s⟩
           case measure=>simp[intOf];omega
         ·obtain rfl:t=wd:=by omega
          have b0:wr.cell? ⟨wz.heap.size,0,none⟩=some (.int .i64 t):=by rw[HB.cell];rfl
          have HPN:=uT HPA;clear HPA HB;go_wp2_with fail;go_roundw
          case rel=>
           refine⟨j+1,by omega,by go_num,?_,?_⟩
           ·have h:=HPN.s;have htk:(cT ((t:Int),(v:Int))).take t=cT ((t:Int),(v:Int)):=qS (by rw[gP];simp);rw[htk,<-zGc fs j _ HF.s]at h;exact h
           ·show(fs.take (j+1)).all zBp=true;rw[dB fs j _ HF.s,List.all_append,HO.s];have:=HFIT.s;simp only[List.all_cons,List.all_nil,Bool.and_true,Bool.true_and,zBp,qR,decide_eq_true_eq];exact⟨by omega,by exact_mod_cast this⟩
          case measure=>simp[intOf];omega
       ·have HQ:=HNO (by simp only[zBp,qR,decide_eq_false_iff_not];intro h;exact hfit (by have:=h.2;exact_mod_cast this));have hfd:decide ((2:Int)^wd<=(v:Int))=true:=decide_eq_true (by
         have:((2^wd:Nat):Int)<=((v:Nat):Int):=by omega
         simpa using this)
        clear HNO hfit;go_wp2_with fail;go_quiet (fail);go_wp2_with fail;go_ret2;exact⟨_,by rw[HQ.s];rfl,by rw[HQ.s];exact⟨qH _ _ _ _,below_drewN (HA'.s.2.2.alloc hszx _) _⟩⟩
     ·obtain rfl:j=k:=by omega
      have hall:fs.take j=fs:=qS (by rw[HL.s];exact qA _);have HQ:=uT (show gM fs=(bytesOf (bH fs) N,0)by rw[HP.s];have h:=HO.s;rw[hall]at h;rw[h];rfl);rw[hall]at HA HA';obtain⟨bs0,hbs0⟩:=kB (bH fs);rw[<-hbs0]at HA' HQ hN2 hN3;have HLE0:=uT (show∀b∈bs0,b<=1 by rw[hbs0];exact zBw fs);clear hall HA hbs0;go_wp2_with fail
      go_loopw [9] (λv wy=>∃(m:Nat),bs0.length<=m/\m<=8*N/\zQg w wy v m (zGh bs0 m)) (λv _=>8*N-lenOf v)
      case atStart=>exact⟨bs0.length,qA _,by omega,by rw[yDe];exact HA'.s⟩
      case round=>
       obtain⟨m,hm1,hm2,HB⟩:=hrel;obtain⟨A9,c9,rfl,hc9⟩:=HB.1;have HBH:=uT HB;have hszy:=HB.2.2.size;clear HB;by_cases hlt3:m<8*N
       ·go_wp2_with(first
         |(at_builtin;(refine bF _ rfl (.tmp 79) (.tmp 80) _ rfl w.heap.size 3 i0 _ 1 8 underlying22 hi hz0 hz1 hz2 rfl (by omega) (by omega) _ _ _ HBH.s.2.1 rfl _ 1 _ rfl rfl rfl (by simp[Value.oneCell']) (by omega) (by omega) ?_);intro g cap w1 hg hown1 hbel1 _ _))
        go_roundw
        case rel=>
         refine⟨m+1,by omega,by omega,⟨_,cap,rfl,?_⟩,?_,hbel1 _ _ (qA _) HBH.s.2.2⟩
         ·rcases bE hown1 with⟨_,_,e0,hc0⟩;injection e0 with _ _ e0;subst e0;exact hc0
         ·rw[yCy bs0 m hm1,zMm];exact hown1
        case measure=>simp[lenOf];omega
       ·obtain rfl:m=8*N:=by omega
        obtain⟨HLE,HB8,HL1⟩:=uJ (padTo_le bs0 (8*N) HLE0.s) (yDg bs0 (8*N)) (yId bs0 (8*N) hm1);obtain⟨bs1,hbs1⟩:=kB (zGh bs0 (8*N));rw[<-hbs1]at HBH HLE HB8 HL1;obtain⟨wz,rfl⟩:=kB wr;clear hbs1;go_wp2_with fail
        go_loopw [13,14] (λv i wy=>∃(m:Nat),m<=N/\i= .int .i64 m/\wy.ownsRow w.heap.size 5 1 v m ((bytesOf bs1 m).map (Value.int .u8))/\zQg w wy (.slice A9 (8*N) c9) (8*N) bs1) (λ_ i _=>N-(intOf i).toNat)
        case atStart=>exact⟨0,qL _,rfl,qH _ _ _ _,HBH.s⟩
        case round=>
         obtain⟨m,hm3,rfl,hown,HBM⟩:=hrel;by_cases hlt4:m<N
         ·have hne9:¬ c9=8*m:=by omega
          have hcut:=(Reads.of_own HBM.2.1).cut (k:=8*m) (cap:=c9) (by omega) hc9;rw[if_neg hne9]at hcut;obtain⟨b9,o9,hA9,hb9,hc9'⟩:=zMd (Reads.of_own HBM.2.1) (by omega) (by omega);subst hA9;have HCELL:=uT (λq (hq:q<8)=>show wr.cell? ⟨b9,o9+8*m+q,none⟩=some (.int .i64 (bs1.getD (8*m+q) 0))by have hl:=HL1.s;rw[Nat.add_assoc];refine hc9' _ _ ?_;simp[gU,show 8*m+q<bs1.length by omega])
          obtain⟨HOWN,HBMH⟩:=uI hown HBM;clear hcut hown HBM hc9';go_wp2_with fail;obtain⟨wv,rfl⟩:=kB wr
          go_loop [15,95] (λx q=>∃(t:Nat),t<=8/\q= .int .i64 t/\x= .int .i64 (dP bs1 (8*m) t)) (λ_ q=>8-(intOf q).toNat)
          case atStart=>exact⟨0,by omega,rfl,rfl⟩
          case round=>
           obtain⟨t,ht,rfl,rfl⟩:=hrel;have hbv:=zRf bs1 HLE.s (8*m) t;have hbv2:dP bs1 (8*m) t<=256:=by have:=Nat.pow_le_pow_right (n:=2) (by omega) ht;omega
           clear hbv;by_cases htl:t<8
           ·have hcl:=HCELL.s t htl;have hb1:bs1.getD (8*m+t) 0<=1:=by
             rw[qG];cases hg:bs1[8*m+t]? with
             |none=>simp
             |some b=>exact HLE.s b (qB hg)
            have HSTEP:=uT (show dP bs1 (8*m) (t+1)=2*dP bs1 (8*m) t+bs1.getD (8*m+t) 0 from rfl);obtain⟨z,hz⟩:=kB (bs1.getD (8*m+t) 0);rw[<-hz]at hcl hb1 HSTEP;clear hz;go_wp2_with fail
            go_round
            case rel=>exact⟨t+1,by omega,by go_num,by rw[HSTEP.s];go_num⟩
            case measure=>simp[intOf];omega
           ·obtain rfl:t=8:=by omega
            have hby:=zDl bs1 HLE.s m;obtain⟨y,hy⟩:=kB (byteOf bs1 m);have hbv3:dP bs1 (8*m) 8<=255:=hby;have hszv:=HBMH.s.2.2.size;go_wp2_with(first
             |(at_builtin;(refine bF _ rfl (.tmp 104) (.tmp 107) _ rfl w.heap.size 5 i8 _ 1 1 underlying55 hi8 hz80 hz81 hz82 rfl (by omega) (by omega) _ _ _ HOWN.s rfl _ 1 _ rfl rfl rfl (by simp[Value.oneCell']) (by omega) (by omega) ?_);intro g cap w1 hg hown1 hbel1 hgr1 hat1))
            have HN1:=uT (show w1.ownsRow w.heap.size 5 1 (.slice (some ⟨g,0,none⟩) (m+1) cap) (m+1) ((bytesOf bs1 (m+1)).map (Value.int .u8))by
             have e:bytesOf bs1 (m+1)=bytesOf bs1 m++[(byteOf bs1 m:Int)]:=by simp[bytesOf,List.range_succ]
             rw[e,jA];exact hown1)
            have HN2:=uT (show zQg w w1 (.slice (some ⟨b9,o9,none⟩) (8*N) c9) (8*N) bs1 from
             ⟨HBMH.s.1,HBMH.s.2.1.kept hgr1 (dV HBMH.s.2.1 HOWN.s (by decide)),hbel1 _ _ (qA _) HBMH.s.2.2⟩)
            clear hown1 hgr1 hat1;go_wp2_with fail;go_roundw
            case rel=>exact⟨m+1,by omega,by go_num,HN1.s,HN2.s⟩
            case measure=>simp[intOf];omega
         ·obtain rfl:m=N:=by omega
          have HEND:=uT (show Packed w u13 wr (bytesOf bs0 m)from by
           have e:bytesOf bs0 m=bytesOf bs1 m:=by unfold bytesOf;exact List.map_congr_left λi _=>by rw[HB8.s]
           rw[e];exact⟨by rw[show(bytesOf bs1 m).length=m by simp[bytesOf]];exact hown,HBM.2.2⟩)
          clear hown HBM;go_wp2_with fail;go_ret2;exact⟨_,by rw[HQ.s];rfl,by rw[HQ.s];exact HEND.s⟩
def fv(f:Nat->Nat)(s:Nat):Nat->Nat
 |0=>0
 |k+1=>2*fv f s k+f (s+k)
theorem zHi(f:Nat->Nat)(hf:∀k,f k<=1)(s k:Nat):fv f s k<2^k:=by
 induction k with
 |zero=>simp[fv]
 |succ k ih=>rw[fv,Nat.pow_succ];have:=hf (s+k);omega
theorem zZr(f:Nat->Nat)(hf:∀k,f k<=1)(s w j:Nat)(hj:j<w):fv f s w/2^(w-1-j)%2=f (s+j):=by
 induction w with
 |zero=>omega
 |succ w ih=>
  rw[fv];have hb:=hf (s+w);by_cases e:j=w
  ·subst e;simp;omega
  ·rw[show w+1-1-j=(w-1-j)+1 by omega,Nat.pow_succ,Nat.mul_comm (2^(w-1-j)) 2,<-Nat.div_div_eq_div_mul,show(2*fv f s w+f (s+w))/2=fv f s w by omega];exact ih (by omega)
theorem fv_congr(f g:Nat->Nat)(s w:Nat)(h:∀j,j<w->f (s+j)=g (s+j)):fv f s w=fv g s w:=by
 induction w with
 |zero=>rfl
 |succ w ih=>rw[fv,fv,ih (λj hj=>h j (by omega)),h w (by omega)]
theorem zMc(bs:List Nat)(s k:Nat):dP bs s k=fv (λj=>bs.getD j 0) s k:=by
 induction k with
 |zero=>rfl
 |succ k ih=>rw[dP,fv,ih]
def bZ(bs:List Int)(k:Nat):Nat:=(bs.getD (k/8) 0).toNat/2^(7-k%8)%2
theorem zBe(bs:List Int)(k:Nat):bZ bs k<=1:=by unfold bZ;omega
def zAu(bs:List Int):List Int->Nat->List Int
 |[],_=>[]
 |z::ws,at0=>(fv (bZ bs) at0 z.toNat:Int)::zAu bs ws (at0+z.toNat)
def fsB(bs:List Int):List Int->Nat->List (Int×Int)
 |[],_=>[]
 |z::ws,at0=>(z,(fv (bZ bs) at0 z.toNat:Int))::fsB bs ws (at0+z.toNat)
def dF(ws:List Int):Nat:=(ws.map Int.toNat).sum
def zDs(bs:List Int)(s e:Nat):Bool:=decide (∀k,k<e->s<=k->bZ bs k=0)
def dE(ws bs:List Int):List Int×Int:=
 if(zAc ws).2≠0 then([],(zAc ws).2)else if(bs.length:Int)≠(zAc ws).1 then([],4)else if zDs bs (dF ws) (8*bs.length)then(zAu bs ws 0,0)else([],4)
theorem fsB_fst(bs ws:List Int)(a:Nat):(fsB bs ws a).map (·.1)=ws:=by
 induction ws generalizing a with
 |nil=>rfl
 |cons z ws ih=>simp[fsB,ih]
theorem fsB_fits(bs ws:List Int)(a:Nat):(fsB bs ws a).all zBp=true:=by
 induction ws generalizing a with
 |nil=>rfl
 |cons z ws ih=>rw[fsB,List.all_cons,ih,Bool.and_true];have:=zHi (bZ bs) (zBe bs) a z.toNat;simp only[zBp,decide_eq_true_eq];exact⟨by omega,by exact_mod_cast this⟩
theorem zXw(bs:List Int)(a:Nat)(z:Int):cT (z,(fv (bZ bs) a z.toNat:Int))=(List.range z.toNat).map λk=>bZ bs (a+k):=by
 unfold cT;refine List.map_congr_left λk hk=> ?_
 exact zZr (bZ bs) (zBe bs) a z.toNat k (jZ.1 hk)
theorem yBl(bs ws:List Int)(a:Nat):bH (fsB bs ws a)=(List.range (dF ws)).map λk=>bZ bs (a+k):=by
 induction ws generalizing a with
 |nil=>rfl
 |cons z ws ih=>
  have e:bH (fsB bs (z::ws) a)=cT (z,(fv (bZ bs) a z.toNat:Int))++bH (fsB bs ws (a+z.toNat)):=by simp[bH,fsB]
  rw[e,zXw,ih];have e2:dF (z::ws)=z.toNat+dF ws:=by simp[dF]
  rw[e2,List.range_add,jA,List.map_map]
  congr 1
  refine List.map_congr_left λk _=> ?_
  simp[Nat.add_assoc]
def zQk(z:Nat):Nat:=fv (λj=>z/2^(7-j)%2) 0 8
theorem yAc(z:Nat)(h:z<=255):zQk z=z:=by
 have H:∀m:Fin 256,zQk m.val=m.val:=by decide+kernel
 exact H ⟨z,by omega⟩
theorem fv_byte(bs:List Int)(i:Nat)(h:∀z∈bs,0<=z/\z<=255)(hi:i<bs.length):(fv (bZ bs) (8*i) 8:Int)=bs.getD i 0:=by
 have hz:=h (bs.getD i 0) (by rw[qG,qI hi];exact List.getElem_mem hi);obtain⟨z,e⟩:=qP hz.1;have:fv (bZ bs) (8*i) 8=zQk z:=by
  have e1:∀s,s<=8->fv (bZ bs) (8*i) s=fv (λj=>z/2^(7-j)%2) 0 s:=by
   intro s hs
   induction s with
   |zero=>rfl
   |succ s ih=>
    rw[fv,fv,ih (by omega)]
    congr 1
    unfold bZ;rw[show(8*i+s)/8=i by omega,show(8*i+s)%8=s by omega,e];simp
  exact e1 8 (qA _)
 rw[this,yAc z (by omega),e]
theorem zRj(bs ws:List Int)(h:∀z∈bs,0<=z/\z<=255)(ht:dF ws<=8*bs.length):bytesOf (bH (fsB bs ws 0)) bs.length=bs↔zDs bs (dF ws) (8*bs.length)=true:=by
 rw[yBl];obtain⟨T,hT⟩:=kB (dF ws);rw[<-hT]at ht⊢;clear hT;have hget:∀k,((List.range T).map λk=>bZ bs (0+k)).getD k 0=if k<T then bZ bs k else 0:=by
  intro k;rw[qG];by_cases hk:k<T
  ·simp[hk]
  ·rw[qU (by simpa using hk),if_neg hk];rfl
 unfold zDs;rw[decide_eq_true_iff]
 constructor
 ·intro he k hk hTk;have hi:k/8<bs.length:=by omega
  have h1:bs.getD (k/8) 0=(byteOf ((List.range T).map λk=>bZ bs (0+k)) (k/8):Int):=by
   conv=>lhs;rw[<-he]
   simp[bytesOf,hi]
  unfold bZ;rw[h1];unfold byteOf;rw[zMc,qR];have hf:∀k,(λj=>((List.range T).map λk=>bZ bs (0+k)).getD j 0) k<=1:=by
   intro k;show((List.range T).map λk=>bZ bs (0+k)).getD k 0<=1;rw[hget];split
   ·exact zBe _ _
   ·omega
  have:=zZr _ hf (8*(k/8)) 8 (k%8) (Nat.mod_lt _ (by omega));rw[show 8-1-k%8=7-k%8 by omega]at this;rw[this];show((List.range T).map λk=>bZ bs (0+k)).getD (8*(k/8)+k%8) 0=0;rw[hget,if_neg (by omega)]
 ·intro htail;refine List.ext_getElem (by simp[bytesOf]) λi h1 h2=> ?_
  have e1:bs[i]=bs.getD i 0:=by rw[qG,qI h2];rfl
  rw[e1,<-fv_byte bs i h h2];simp only[bytesOf,List.getElem_map,List.getElem_range];unfold byteOf;rw[zMc]
  congr 1
  refine fv_congr _ _ _ _ λj hj=> ?_
  show((List.range T).map λk=>bZ bs (0+k)).getD (8*i+j) 0=bZ bs (8*i+j);rw[hget]
  split
  ·rfl
  ·rename_i hn;exact(htail (8*i+j) (by omega) (by omega)).symm
theorem zXb(z r:Nat)(hz:z<=255)(hr:r<=7):bits .and .i64 ((z:Int)/2^r) 1=((z/2^r%2:Nat):Int):=by
 have e:((z:Int)/2^r)=((z/2^r:Nat):Int):=by simp
 have hd:z/2^r<=z:=Nat.div_le_self _ _;rw[e,show(1:Int)=((1:Nat):Int)from rfl,zBz _ _ (by omega) (by omega),Nat.and_one_is_mod]
theorem zWw(g b o:Nat)(m c at0 z:Nat)(w:World)(hw:at0/8<m)(hc:m<=c)(hat:at0<=1000000)(hz:z<=255)(c0:w.cell? ⟨g,0,none⟩=some (.slice (some ⟨b,o,none⟩) m c))(c1:w.cell? ⟨g,1,none⟩=some (.int .i64 at0))(c2:w.cell? ⟨b,o+at0/8,none⟩=some (.int .u8 z))(f1:w.frozen? ⟨g,1,none⟩=false):Calls prog 133 #[.pointer (some ⟨g,0,none⟩)] w λe w'=>e= .returned (.int .i64 ((z/2^(7-at0%8)%2:Nat):Int))/\(w.setCell ⟨g,1,none⟩ (.int .i64 (at0+1))).drew=w':=by
 have hv:=zXb z (7-at0%8) hz (by omega);have hz2:(0:Int)<=(z:Int)/2^(7-at0%8)/\(z:Int)/2^(7-at0%8)<=255:=by
  have e:((z:Int)/2^(7-at0%8))=((z/2^(7-at0%8):Nat):Int):=by simp
  have hd:z/2^(7-at0%8)<=z:=Nat.div_le_self _ _;rw[e];exact⟨Int.natCast_nonneg _,Int.ofNat_le.2 (qN hd hz)⟩
 go_enter func133,ntmps133;go_wp2_with fail
 go_region
 go_wp2
 go_ret;exact⟨rfl,rfl⟩
def strOf(xs:List Int):ByteArray:=xs.foldl (λr n=>r.push (UInt8.ofNat n.toNat)) ByteArray.empty
theorem zPr(A:Option Addr)(n c:Nat)(xs:List Int)(B:Nat)(w:World)(hl:xs.length=n)(hr:Reads w B 1 A n (xs.map (.int .u8))):(convert 55 9 (.slice A n c)).run prog w= .ok (.string (strOf xs)) w:=by
 rw[run_convert_bytes_string w _ _ _ A n c underlying55 underlying5 underlying9];rcases Nat.eq_zero_or_pos n with h0|h0
 ·subst h0;obtain rfl:xs=[]:=uC hl;cases A with
  |none=>simp[Conv.bytesToString,strOf,Sem.run_pure]
  |some a=>exact run_bytesToString w a 0 c [] (run_loadCells_list w a [] λj v h=>by simp at h)
 ·obtain⟨ad,rfl,_,hc⟩:=hr.2 h0;refine run_bytesToString w ad n c xs ?_;have:=run_loadCells_list (P:=prog) w ad (xs.map (.int .u8)) (λj v h=>hc j v h);rw[qQ,hl]at this;exact this
theorem zRx(xs:List Int):(strOf xs).toList=xs.map λn=>UInt8.ofNat n.toNat:=by
 rw[ByteArray.toList_eq];have H:∀(xs:List Int) (r:ByteArray),(xs.foldl (λr n=>r.push (UInt8.ofNat n.toNat)) r).data.toList=r.data.toList++xs.map λn=>UInt8.ofNat n.toNat:=by
  intro xs
  induction xs with
  |nil=>intro r;simp
  |cons x xs ih=>intro r;rw[List.foldl_cons,ih];simp[ByteArray.push]
 simpa[strOf]using H xs ByteArray.empty
theorem strOf_eq(xs ys:List Int)(hx:∀z∈xs,0<=z/\z<=255)(hy:∀z∈ys,0<=z/\z<=255):((strOf xs).toList==(strOf ys).toList)=zHf xs ys:=by
 rw[zRx,zRx,Bool.eq_iff_iff];simp only[beq_iff_eq,zHf,decide_eq_true_eq]
 constructor
 ·intro h;have back:∀l:List Int,(∀z∈l,0<=z/\z<=255)->(l.map λn=>UInt8.ofNat n.toNat).map (λc=>((c.toNat:Nat):Int))=l:=by
   intro l hl;rw[List.map_map]
   conv=>rhs;rw[<-List.map_id l]
   refine List.map_congr_left λz hz=> ?_
   have:=hl z hz;simp only[Function.comp_apply,id_eq,UInt8.toNat_ofNat'];omega
  rw[<-back xs hx,<-back ys hy,h]
 ·intro h;rw[h]
theorem zPu(A A':Option Addr)(n n' c c':Nat)(xs ys:List Int)(B:Nat)(w:World)(hl:xs.length=n)(hl':ys.length=n')(hx:∀z∈xs,0<=z/\z<=255)(hy:∀z∈ys,0<=z/\z<=255)(hr:Reads w B 1 A n (xs.map (.int .u8)))(hr':Reads w B 1 A' n' (ys.map (.int .u8))):Calls prog 99 #[.slice A n c,.slice A' n' c'] w λe w'=>e= .returned (.bool (zHf xs ys))/\w=w':=by have q1:=zPr A n c xs B w hl hr;have q2:=zPr A' n' c' ys B w hl' hr';have HE:=uT (strOf_eq xs ys hx hy);clear hr hr' hl hl' hx hy;go_enter func99,ntmps99;go_wp2_with fail;go_ret;exact⟨bQ HE.s,rfl⟩
theorem zNm(w:World)(B g:Nat)(A:Option Addr)(N c at0:Nat)(bs:List Int)(hb:Blk w g 208 #[.slice A N c,.int .i64 at0])(hr:Reads w B 1 A N (bs.map (.int .u8)))(hl:bs.length=N)(hn:at0/8<N)(hc:N<=c)(hat:at0<=1000000)(hz:∀z∈bs,0<=z/\z<=255):Calls prog 133 #[.pointer (some ⟨g,0,none⟩)] w λe w'=>e= .returned (.int .i64 (bZ bs at0))/\Blk w' g 208 #[.slice A N c,.int .i64 ((at0+1:Nat):Int)]/\w.grownBy w' (some g):=by
 obtain⟨b,o,z,rfl,hbB,hz2,hcell⟩:=dQ hr hn;obtain⟨z,rfl⟩:=qP (hz z (qB hz2)).1;have hz255:=(hz _ (qB hz2)).2;refine(zWw g b o N c at0 z w hn hc hat (by omega) (by rw[hb.cell];rfl) (by rw[hb.cell];rfl) hcell (hb.frozen 1)).mono ?_;rintro e w' ⟨rfl,rfl⟩;refine⟨?_,?_,?_⟩
 ·have:bs.getD (at0/8) 0=(z:Int):=by rw[qG,hz2];rfl
  unfold bZ;rw[this];rfl
 ·exact(hb.set_ 1 _).drew
 ·exact yFy (fV (World.grownBy.refl w _) (.inl rfl) _)
theorem zUc(bs ws:List Int)(a k:Nat)(z:Int)(h:ws[k]? =some z):(zAu bs ws a)[k]? =some (fv (bZ bs) (a+dF (ws.take k)) z.toNat:Int):=by
 induction ws generalizing a k with
 |nil=>simp at h
 |cons y ws ih=>
  cases k with
  |zero=>simp at h;subst h;simp[zAu,dF]
  |succ k=>simp at h;rw[zAu,jP,ih _ _ h];simp[dF,Nat.add_assoc]
theorem zHv(bs ws:List Int)(a:Nat):(zAu bs ws a).length=ws.length:=by
 induction ws generalizing a with
 |nil=>rfl
 |cons y ws ih=>simp[zAu,ih]
theorem zPh(ws:List Int)(k:Nat)(z:Int)(h:ws[k]? =some z):dF (ws.take (k+1))=dF (ws.take k)+z.toNat:=by rw[dB ws k z h];simp[dF]
theorem zKu(ws:List Int)(k:Nat):dF (ws.take k)<=dF ws:=by
 have e:dF ws=dF (ws.take k)+dF (ws.drop k):=by unfold dF;rw[<-List.sum_append,<-jA,jW]
 omega
def zEm(bs ws:List Int)(k:Nat):List Value:=((zAu bs ws 0).take k).map (Value.int .i64)
theorem zPa(bs ws:List Int)(k:Nat)(z:Int)(h:ws[k]? =some z):zEm bs ws (k+1)=zEm bs ws k++[.int .i64 (fv (bZ bs) (dF (ws.take k)) z.toNat:Int)]:=by have:=zUc bs ws 0 k z h;rw[Nat.zero_add]at this;simp[zEm,dB _ k _ this]
theorem zRy(bs ws:List Int):zEm bs ws ws.length=(zAu bs ws 0).map (Value.int .i64):=by unfold zEm;rw[qS (by rw[zHv];exact qA _)]
def zTb(ws bs:List Int)(W:World)(e:Ending)(w:World):Prop:=∃v,e= .returned (.tuple #[v,.int .i64 (dE ws bs).2])/\w.ownsRow W.heap.size 3 1 v (dE ws bs).1.length ((dE ws bs).1.map (.int .i64))/\uR W w
theorem or_bit(v b:Nat)(hv:v<=1152921504606846976)(hb:b<=1):bits .or .i64 ((v:Int)*2) (b:Int)=((2*v+b:Nat):Int):=by rw[show(v:Int)*2=((v*2:Nat):Int)by simp,zQt _ _ (by omega) (by omega),nat_join 1 (v*2) b (by omega) (by omega),Nat.mul_comm]
theorem zLb(A:Option Addr)(n c:Nat)(ws:List Int)(A':Option Addr)(n' c':Nat)(bs:List Int)(w:World)(hl:ws.length=n)(hm:n<=9223372036854775807)(hr:Reads w w.heap.size 1 A n (ws.map (.int .i64)))(hl':bs.length=n')(hm':n'<=9223372036854775807)(hc':n'<=c')(hr':Reads w w.heap.size 1 A' n' (bs.map (.int .u8)))(hz:∀z∈bs,0<=z/\z<=255):Calls prog 112 #[.slice A n c,.slice A' n' c'] w (zTb ws bs w):=by
 obtain⟨i0,hi,hz0,hz1,hz2⟩:=info_parts zIy;obtain⟨HR,HR',HL,HL',HZ,HC⟩:=uM hr hr' hl hl' hz (zMt A n c ws _ w hl hm hr);clear hr hr' hz;rcases zHg ws with hs|hs|⟨N,hs,h40,hw60,hN⟩
 ·obtain⟨HC2,HP⟩:=uI (by have h:=HC.s;rw[hs]at h;exact h) (show dE ws bs=([],1)by unfold dE;rw[hs];rfl);clear HC hs hl hl';go_enter func112,ntmps112;go_wp2_with fail;refine HC2.s.mono ?_;rintro e w' ⟨rfl,rfl⟩;go_wp2_with fail;go_ret2;exact⟨_,by rw[HP.s];rfl,by rw[HP.s];exact⟨qH _ _ _ _,qC _ _⟩⟩
 ·obtain⟨HC2,HP⟩:=uI (by have h:=HC.s;rw[hs]at h;exact h) (show dE ws bs=([],2)by unfold dE;rw[hs];rfl);clear HC hs hl hl';go_enter func112,ntmps112;go_wp2_with fail;refine HC2.s.mono ?_;rintro e w' ⟨rfl,rfl⟩;go_wp2_with fail;go_ret2;exact⟨_,by rw[HP.s];rfl,by rw[HP.s];exact⟨qH _ _ _ _,qC _ _⟩⟩
 ·have HC2:=uT (by have h:=HC.s;rw[hs]at h;exact h);have hu:dE ws bs=if((bs.length:Nat):Int)≠N then([],4)else if zDs bs (dF ws) (8*bs.length)then(zAu bs ws 0,0)else([],4):=by unfold dE;rw[hs];simp
  by_cases hne:n'=N
  ·have HP:=uT (show dE ws bs=if zDs bs (dF ws) (8*N)then(zAu bs ws 0,0)else([],4)by rw[hu,if_neg (by rw[hl',hne];simp),hl',hne]);have hT:dF ws<=8*N:=by unfold dF;omega
   have hN4:N<=300:=by have:=zSe ws hw60;omega
   have hn40:n<=40:=by omega
   have HW60:=uT hw60;subst hne;clear HC hs hl hl' hu hN hw60 h40;go_enter func112,ntmps112;go_wp2_with fail;refine HC2.s.mono ?_;rintro e w' ⟨rfl,rfl⟩;go_wp2_with fail
   go_loopw [9,30] (λv i wr=>∃(k:Nat),k<=n/\i= .int .i64 k/\wr.ownsRow w.heap.size 3 1 v k (zEm bs ws k)/\Blk wr w.heap.size 208 #[.slice A' n' c',.int .i64 (dF (ws.take k))]/\uR w wr) (λ_ i _=>n-(intOf i).toNat)
   case atStart=>exact⟨0,qL _,rfl,qH _ _ _ _,by simpa[dF]using Blk.new w _ _,(qC _ _).alloc (qA _) _⟩
   case round=>
    obtain⟨k,hk,rfl,hown,hblk,hb⟩:=hrel;obtain⟨HOWN,HBLK,HB⟩:=uJ hown hblk hb;have hszr:=hb.size;clear hown hblk;by_cases hlt:k<n
    ·obtain⟨b,o,z,rfl,hab,hf,hc0⟩:=dQ (HR.s.below hb) hlt;have hwd:=HW60.s z (qB hf);obtain⟨wd,rfl⟩:=qP (show 0<=z by omega);have hwd2:wd<=60:=by omega
     obtain⟨HT,HTL,HV⟩:=uJ (zPh ws k _ hf) (zKu ws (k+1)) (zPa bs ws k _ hf);simp only[qR]at HT HV;obtain⟨T,hTT⟩:=kB (dF (ws.take k));rw[<-hTT]at HT HV HBLK;have hT2:T+wd<=8*n':=by have h1:=HT.s;have h2:=HTL.s;omega
     clear hf hwd hb hTT;obtain⟨wo,rfl⟩:=kB wr;go_wp2_with fail
     go_loopw [12,35] (λq i wr=>∃(t:Nat),t<=wd/\i= .int .i64 t/\q= .int .i64 (fv (bZ bs) T t)/\wr.ownsRow w.heap.size 3 1 u9 k (zEm bs ws k)/\Blk wr w.heap.size 208 #[.slice A' n' c',.int .i64 ((T+t:Nat):Int)]/\uR w wr) (λ_ i _=>wd-(intOf i).toNat)
     case atStart=>exact⟨0,qL _,rfl,rfl,HOWN.s,HBLK.s,HB.s⟩
     case round=>
      obtain⟨t,ht,rfl,rfl,ho2,hbk2,hb2⟩:=hrel;have hfl:=zHi (bZ bs) (zBe bs) T t;have hfl2:fv (bZ bs) T t<=1152921504606846976:=by have:=zGl (show t<=60 by omega);omega
      by_cases htl:t<wd
      ·have HTAKE:=uT (zNm wr _ w.heap.size A' n' c' (T+t) bs hbk2 (HR'.s.below hb2) HL'.s (by omega) hc' (by omega) HZ.s);have hor:=or_bit (fv (bZ bs) T t) (bZ bs (T+t)) hfl2 (zBe bs _);obtain⟨HSTEP,HO2,HBK2,HB2⟩:=uK (show fv (bZ bs) T (t+1)=2*fv (bZ bs) T t+bZ bs (T+t)from rfl) ho2 hbk2 hb2;have hbit:=zBe bs (T+t);clear ho2 hbk2 hb2 hfl;go_wp2_with fail;refine HTAKE.s.mono ?_;rintro e w1 ⟨rfl,hbk3,hg3⟩;have HBK3:=uT hbk3;have HO3:=uT (HO2.s.kept hg3 (by
        rcases hv:u9.ownBlock with _|x
        ·exact .inl rfl
        ·right;rw[<-hv];exact bC HO2.s HBK2.s (by decide)))
       have HB3:=uT (HB2.s.grown hg3 HB2.s.size λx hx=>by injection hx with hx;omega);clear hbk3 hg3;go_wp2_with fail;go_roundw
       case rel=>exact⟨t+1,by omega,by go_num,by rw[HSTEP.s];go_num,HO3.s,HBK3.s,HB3.s⟩
       case measure=>simp[intOf];omega
      ·obtain rfl:t=wd:=by omega
       obtain⟨HO2,HBK2,HB2⟩:=uJ ho2 hbk2 hb2;have hszy:=hb2.size;clear ho2 hbk2 hb2 hfl;go_wp2_with(first
        |(at_builtin;(refine bF _ rfl (.tmp 43) (.tmp 45) _ rfl w.heap.size 3 i0 _ 1 8 underlying22 hi hz0 hz1 hz2 rfl (by omega) (by omega) _ _ _ HO2.s rfl _ 1 _ rfl rfl rfl (by simp[Value.oneCell']) (by omega) (by omega) ?_);intro g cap w1 hg hown1 hbel1 hgr1 _))
       have HO3:=uT (show w1.ownsRow w.heap.size 3 1 (.slice (some ⟨g,0,none⟩) (k+1) cap) (k+1) (zEm bs ws (k+1))by rw[HV.s];exact hown1);have HBK3:=uT (show Blk w1 w.heap.size 208 #[.slice A' n' c',.int .i64 (dF (ws.take (k+1)))]from by rw[HT.s];exact HBK2.s.grown hgr1 λhe=>bC HO2.s HBK2.s (by decide) he.symm)
       have HB3:=uT (hbel1 _ _ (qA _) HB2.s);clear hown1 hgr1;go_wp2_with fail;go_roundw
       case rel=>exact⟨k+1,by omega,by go_num,HO3.s,HBK3.s,HB3.s⟩
       case measure=>simp[intOf];omega
    ·obtain rfl:k=n:=by omega
     have hall:ws.take k=ws:=qS (by rw[HL.s];exact qA _);have HBK2:=uT (show Blk wr w.heap.size 208 #[.slice A' n' c',.int .i64 (dF ws)]by have h:=HBLK.s;rw[hall]at h;exact h);have HO2:=uT (show wr.ownsRow w.heap.size 3 1 u9 (zAu bs ws 0).length ((zAu bs ws 0).map (.int .i64))by have h:=HOWN.s;rw[zHv,HL.s,<-zRy,HL.s];exact h)
     obtain⟨T,hTT⟩:=kB (dF ws);rw[<-hTT]at HBK2 hT HP;clear hall hb HOWN HBLK hTT;obtain⟨wo,rfl⟩:=kB wr;go_wp2_with fail
     go_loopg [] (8*n'-T) (λq wr=>∃(t:Nat),T+t+q=8*n'/\uS (∀k,k<T+t->T<=k->bZ bs k=0)/\wr.ownsRow w.heap.size 3 1 u9 (zAu bs ws 0).length ((zAu bs ws 0).map (.int .i64))/\Blk wr w.heap.size 208 #[.slice A' n' c',.int .i64 ((T+t:Nat):Int)]/\uR w wr)
     case atStart=>exact⟨0,by omega,λk h1 h2=>by omega,HO2.s,HBK2.s,HB.s⟩
     case round=>
      obtain⟨t,ht,HZE,ho2,hbk2,hb2⟩:=hrel;have b1:wr.cell? ⟨w.heap.size,1,none⟩=some (.int .i64 ((T+t:Nat):Int)):=by rw[hbk2.cell];rfl
      by_cases htl:T+t<8*n'
      ·obtain⟨HTAKE,HO3,HBK3,HB3⟩:=uK (zNm wr _ w.heap.size A' n' c' (T+t) bs hbk2 (HR'.s.below hb2) HL'.s (by omega) hc' (by omega) HZ.s) ho2 hbk2 hb2;have hbit:=zBe bs (T+t);clear ho2 hbk2 hb2;rcases(show bZ bs (T+t)=0\/bZ bs (T+t)=1 by omega)with hb0|hb0
       ·have HZE2:=uT (show∀k,k<T+(t+1)->T<=k->bZ bs k=0 by
         intro k h1 h2;by_cases e:k=T+t
         ·rw[e];exact hb0
         ·exact HZE.s k (by omega) h2)
        have HTK:=uT (by have h:=HTAKE.s;rw[hb0]at h;exact h);clear HTAKE hb0 hbit;go_wp2_with fail;refine HTK.s.mono ?_;rintro e w1 ⟨rfl,hbk4,hg4⟩;have HBK4:=uT hbk4;have HO4:=uT (HO3.s.kept hg4 (by
         rcases hv:u9.ownBlock with _|x
         ·exact .inl rfl
         ·right;rw[<-hv];exact bC HO3.s HBK3.s (by decide)))
        have HB4:=uT (HB3.s.grown hg4 HB3.s.size λx hx=>by injection hx with hx;omega);clear hbk4 hg4;go_wp2_with fail
        go_roundg (gk-1)
        case measure=>omega
        case rel=>exact⟨t+1,by omega,HZE2.s,HO4.s,HBK4.s,HB4.s⟩
       ·have HP2:=uT (show dE ws bs=([],4)by rw[HP.s,if_neg];intro h;unfold zDs at h;have:=of_decide_eq_true h (T+t) htl (by omega);omega)
        have HTK:=uT (by have h:=HTAKE.s;rw[hb0]at h;exact h);clear HTAKE hb0 hbit;go_wp2_with fail;refine HTK.s.mono ?_;rintro e w1 ⟨rfl,hbk4,hg4⟩;have HB4:=uT (HB3.s.grown hg4 HB3.s.size λx hx=>by injection hx with hx;omega);clear hbk4 hg4;go_wp2_with fail;go_ret2;exact⟨_,by rw[HP2.s];rfl,by rw[HP2.s];exact⟨qH _ _ _ _,HB4.s⟩⟩
      ·have HP2:=uT (show dE ws bs=(zAu bs ws 0,0)by rw[HP.s,if_pos];unfold zDs;exact decide_eq_true λk h1 h2=>HZE.s k (by omega) h2)
       obtain⟨HO3,HB3⟩:=uI ho2 hb2;clear ho2 hb2 hbk2;go_wp2_with fail;go_ret2;exact⟨_,by rw[HP2.s];rfl,by rw[HP2.s];exact⟨HO3.s,HB3.s⟩⟩
  ·have HP:=uT (show dE ws bs=([],4)by rw[hu,if_pos (by rw[hl'];intro h;exact hne (by exact_mod_cast h))]);have hne':((n':Int) !=(N:Int))=true:=by rw[bne_iff_ne];intro h;exact hne (by exact_mod_cast h)
   clear HC hs hl hl' hu hN hw60 h40 hne;go_enter func112,ntmps112;go_wp2_with fail;refine HC2.s.mono ?_;rintro e w' ⟨rfl,rfl⟩;go_wp2_with fail;go_ret2;exact⟨_,by rw[HP.s];rfl,by rw[HP.s];exact⟨qH _ _ _ _,qC _ _⟩⟩
theorem info_fld:(prog.info? 179).map (λi=>(i.zero,i.size,i.bytes))=some (some (.agg #[.int .i64 0,.int .i64 0]),2,16):=by kernel_rfl
theorem yCn(bs ws:List Int)(a k:Nat)(z:Int)(h:ws[k]? =some z):(fsB bs ws a)[k]? =some (z,(fv (bZ bs) (a+dF (ws.take k)) z.toNat:Int)):=by
 induction ws generalizing a k with
 |nil=>simp at h
 |cons y ws ih=>
  cases k with
  |zero=>simp at h;subst h;simp[fsB,dF]
  |succ k=>simp at h;rw[fsB,jP,ih _ _ h];simp[dF,Nat.add_assoc]
theorem zTn(bs ws:List Int)(a:Nat):(fsB bs ws a).length=ws.length:=by
 induction ws generalizing a with
 |nil=>rfl
 |cons y ws ih=>simp[fsB,ih]
def zHr(bs ws:List Int)(k:Nat):List Value:=((fsB bs ws 0).take k).flatMap gL
theorem yBv(bs ws:List Int)(k:Nat)(z:Int)(h:ws[k]? =some z):zHr bs ws (k+1)=zHr bs ws k++[.int .i64 z,.int .i64 (fv (bZ bs) (dF (ws.take k)) z.toNat:Int)]:=by have:=yCn bs ws 0 k z h;rw[Nat.zero_add]at this;simp[zHr,dB _ k _ this,gL]
theorem yEc(bs ws:List Int):zHr bs ws ws.length=(fsB bs ws 0).flatMap gL:=by unfold zHr;rw[qS (by rw[zTn];exact qA _)]
theorem zWd{w w':World}{base size n:Nat}{e:TypeId}{v:Value}{xs:List Value}(h:w.ownsRow base e size v n xs)(hb:uR w w'):w'.ownsRow base e size v n xs:=
 h.kept (row:=none) ⟨hb.os,hb.tape,hb.output,hb.size,λk hk _=>hb.block k hk⟩ (by cases v.ownBlock<;>simp)
theorem zTg(A:Option Addr)(n c:Nat)(ws:List Int)(A':Option Addr)(n' c':Nat)(bs:List Int)(w:World)(hl:ws.length=n)(hm:n<=9223372036854775807)(hr:Reads w w.heap.size 1 A n (ws.map (.int .i64)))(hl':bs.length=n')(hm':n'<=9223372036854775807)(hc':n'<=c')(hr':Reads w w.heap.size 1 A' n' (bs.map (.int .u8)))(hz:∀z∈bs,0<=z/\z<=255):Calls prog 97 #[.slice A n c,.slice A' n' c'] w (zTb ws bs w):=by
 obtain⟨i0,hi,hz0,hz1,hz2⟩:=info_parts zIy;obtain⟨iF,hiF,hzF0,hzF1,hzF2⟩:=info_parts info_fld;obtain⟨HR,HR',HL,HL',HZ,HC⟩:=uM hr hr' hl hl' hz (zNo A n c ws _ w hl hm hr);clear hr hr' hz;rcases zHg ws with hs|hs|⟨N,hs,h40,hw60,hN⟩
 ·obtain⟨HC2,HP⟩:=uI (by have h:=HC.s;rw[hs]at h;exact h) (show dE ws bs=([],1)by unfold dE;rw[hs];rfl);clear HC hs hl hl';go_enter func97,ntmps97;go_wp2_with fail;refine HC2.s.mono ?_;rintro e w' ⟨rfl,rfl⟩;go_wp2_with fail;go_ret2;exact⟨_,by rw[HP.s];rfl,by rw[HP.s];exact⟨qH _ _ _ _,qC _ _⟩⟩
 ·obtain⟨HC2,HP⟩:=uI (by have h:=HC.s;rw[hs]at h;exact h) (show dE ws bs=([],2)by unfold dE;rw[hs];rfl);clear HC hs hl hl';go_enter func97,ntmps97;go_wp2_with fail;refine HC2.s.mono ?_;rintro e w' ⟨rfl,rfl⟩;go_wp2_with fail;go_ret2;exact⟨_,by rw[HP.s];rfl,by rw[HP.s];exact⟨qH _ _ _ _,qC _ _⟩⟩
 ·have HC2:=uT (by have h:=HC.s;rw[hs]at h;exact h);have hu:dE ws bs=if((bs.length:Nat):Int)≠N then([],4)else if zDs bs (dF ws) (8*bs.length)then(zAu bs ws 0,0)else([],4):=by unfold dE;rw[hs];simp
  by_cases hne:n'=N
  ·have HP:=uT (show dE ws bs=if zDs bs (dF ws) (8*N)then(zAu bs ws 0,0)else([],4)by rw[hu,if_neg (by rw[hl',hne];simp),hl',hne]);have hT:dF ws<=8*N:=by unfold dF;omega
   have hN4:N<=300:=by have:=zSe ws hw60;omega
   have hn40:n<=40:=by omega
   obtain⟨HW60,HPK⟩:=uI hw60 (show gM (fsB bs ws 0)=(bytesOf (bH (fsB bs ws 0)) N,0)by unfold gM;rw[fsB_fst,hs,fsB_fits];simp);have HRE:=uT (show(bytesOf (bH (fsB bs ws 0)) N=bs↔zDs bs (dF ws) (8*N)=true)by have:=zRj bs ws HZ.s (by rw[hl',hne];exact hT);rw[hl',hne]at this;exact this)
   subst hne;clear HC hs hl hl' hu hN hw60 h40;go_enter func97,ntmps97;go_wp2_with fail;refine HC2.s.mono ?_;rintro e w' ⟨rfl,rfl⟩;go_wp2_with fail
   go_loopw [8,9,10,31] (λv l at0 i wr=>∃(k:Nat),k<=n/\i= .int .i64 k/\at0= .int .i64 (dF (ws.take k))/\wr.ownsRow w.heap.size 3 1 v k (zEm bs ws k)/\wr.ownsRow w.heap.size 179 2 l k (zHr bs ws k)/\uR w wr) (λ_ _ _ i _=>n-(intOf i).toNat)
   case atStart=>exact⟨0,qL _,rfl,rfl,qH _ _ _ _,qH _ _ _ _,qC _ _⟩
   case round=>
    obtain⟨k,hk,rfl,rfl,hown,hown2,hb⟩:=hrel;obtain⟨HOWN,HOWF,HB⟩:=uJ hown hown2 hb;have hszr:=hb.size;clear hown hown2;by_cases hlt:k<n
    ·obtain⟨b,o,z,rfl,hab,hf,hc0⟩:=dQ (HR.s.below hb) hlt;have hwd:=HW60.s z (qB hf);obtain⟨wd,rfl⟩:=qP (show 0<=z by omega);have hwd2:wd<=60:=by omega
     obtain⟨HT,HTL,HV,HF⟩:=uK (zPh ws k _ hf) (zKu ws (k+1)) (zPa bs ws k _ hf) (yBv bs ws k _ hf);simp only[qR]at HT HV HF;obtain⟨T,hTT⟩:=kB (dF (ws.take k));rw[<-hTT]at HT HV HF;have hT2:T+wd<=8*n':=by have h1:=HT.s;have h2:=HTL.s;omega
     rw[<-hTT];clear hf hwd hb hTT;obtain⟨wo,rfl⟩:=kB wr;go_wp2_with fail
     go_loopw [10,13,14] (λat0 q i wr=>∃(t nq:Nat),t<=wd/\i= .int .i64 t/\at0= .int .i64 ((T+t:Nat):Int)/\q= .int .i64 (fv (bZ bs) T t)/\wr=wo.drewN nq) (λ_ _ i _=>wd-(intOf i).toNat)
     case atStart=>exact⟨0,0,qL _,rfl,rfl,rfl,rfl⟩
     case round=>
      obtain⟨t,nq,ht,rfl,rfl,rfl,rfl⟩:=hrel;have hfl:=zHi (bZ bs) (zBe bs) T t;have hfl2:fv (bZ bs) T t<=1152921504606846976:=by have:=zGl (show t<=60 by omega);omega
      by_cases htl:t<wd
      ·obtain⟨b',o',y,rfl,hb',hy,hcy0⟩:=dQ HR'.s (show(T+t)/8<n' by omega);obtain⟨y,rfl⟩:=qP (HZ.s y (qB hy)).1;have hy255:=(HZ.s _ (qB hy)).2;have hcy:wo.cell? ⟨b',o'+(T+t)/8,none⟩=some (.int .u8 y):=(HB.s.cell (by exact hb')).trans hcy0;have HSTEP:=uT (show fv (bZ bs) T (t+1)=2*fv (bZ bs) T t+y/2^(7-(T+t)%8)%2 by
        have:bs.getD ((T+t)/8) 0=(y:Int):=by rw[qG,hy];rfl
        show 2*fv (bZ bs) T t+bZ bs (T+t)=_;unfold bZ;rw[this];rfl)
       have hp7:(1:Int)<=(2:Int)^(7-(T+t)%8)/\(2:Int)^(7-(T+t)%8)<=128:=by have h1:=zQo (7-(T+t)%8) (by omega);have h0:1<=2^(7-(T+t)%8):=Nat.pow_pos (by omega);have h2:(1:Int)<=((2^(7-(T+t)%8):Nat):Int)/\((2^(7-(T+t)%8):Nat):Int)<=128:=⟨by omega,by omega⟩;simpa using h2
       have hy2:(0:Int)<=(y:Int)/2^(7-(T+t)%8)/\(y:Int)/2^(7-(T+t)%8)<=255:=by
        have e:((y:Int)/2^(7-(T+t)%8))=((y/2^(7-(T+t)%8):Nat):Int):=by simp
        have hd:y/2^(7-(T+t)%8)<=y:=Nat.div_le_self _ _;rw[e];exact⟨Int.natCast_nonneg _,Int.ofNat_le.2 (qN hd (show y<=255 by omega))⟩
       clear hy hcy0 hb' hfl;go_wp2_with fail
       go_region
       go_wp2_with fail;go_roundw
       case rel=>exact⟨t+1,nq+1,by omega,by go_num,by go_num,by rw[HSTEP.s];simp,rfl⟩
       case measure=>simp[intOf];omega
      ·obtain rfl:t=wd:=by omega
       have hszy:=HB.s.size;clear hfl;go_wp2_with(first
        |(at_builtin;(refine bF _ rfl (.tmp 57) (.tmp 59) _ rfl w.heap.size 3 i0 _ 1 8 underlying22 hi hz0 hz1 hz2 rfl (by omega) (by omega) _ _ _ (show(wo.drewN nq).ownsRow w.heap.size 3 1 u8 k (zEm bs ws k)from HOWN.s) rfl _ 1 _ rfl rfl rfl (by simp[Value.oneCell']) (by omega) (by omega) ?_);intro g cap w1 hg hown1 hbel1 hgr1 hat1;(have HF1:=uT ((show(wo.drewN nq).ownsRow w.heap.size 179 2 u9 k (zHr bs ws k)from HOWF.s).kept hgr1 (dV (w:=wo.drewN nq) HOWF.s HOWN.s (by decide))));have HB1:=uT (hbel1 _ _ (qA _) (below_drewN HB.s nq));have hsz1:=HB1.s.size)
        |(at_builtin;(refine bF _ rfl (.tmp 61) (.tmp 65) _ rfl w.heap.size 179 iF _ 2 16 underlying177 hiF hzF0 hzF1 hzF2 rfl (by omega) (by omega) _ _ _ HF1.s rfl _ 1 _ rfl rfl rfl (by simp[Value.oneCell']) (by omega) (by omega) ?_);intro g2 cap2 w2 hg2 hown2 hbel2 hgr2 _))
       have HV2:=uT (show w2.ownsRow w.heap.size 3 1 (.slice (some ⟨g,0,none⟩) (k+1) cap) (k+1) (zEm bs ws (k+1))by rw[HV.s];exact hown1.kept hgr2 (dV hown1 HF1.s (by decide)))
       have HF2:=uT (show w2.ownsRow w.heap.size 179 2 (.slice (some ⟨g2,0,none⟩) (k+1) cap2) (k+1) (zHr bs ws (k+1))by rw[HF.s];exact hown2)
       have HB2:=uT (hbel2 _ _ (qA _) HB1.s);clear hown1 hown2 hgr1 hgr2 hat1;go_roundw
       case rel=>exact⟨k+1,by omega,by go_num,by rw[HT.s];go_num,HV2.s,HF2.s,HB2.s⟩
       case measure=>simp[intOf];omega
    ·obtain rfl:k=n:=by omega
     have HO2:=uT (show wr.ownsRow w.heap.size 3 1 u8 (zAu bs ws 0).length ((zAu bs ws 0).map (.int .i64))by have h:=HOWN.s;rw[zHv,HL.s,<-zRy,HL.s];exact h)
     obtain⟨AF,cF,hAF,_⟩:=bE HOWF.s;subst hAF;have HPACK:=uT (zNz AF k cF (fsB bs ws 0) wr (by rw[zTn];exact HL.s) (by omega) (by have h:=Reads.of_own HOWF.s;rw[<-yEc,HL.s];exact h))
     clear hb HOWN HOWF;go_wp2_with fail;refine HPACK.s.mono ?_;rintro e w1 ⟨v1,rfl,ho1,hb1⟩;obtain⟨A1,c1,rfl,hc1⟩:=bE ho1;have hpk:=HPK.s;rw[hpk]at ho1⊢;have hN1:(bytesOf (bH (fsB bs ws 0)) n').length=n':=by simp[bytesOf]
     rw[hN1]at ho1;have hbytes:∀z∈bytesOf (bH (fsB bs ws 0)) n',0<=z/\z<=255:=by intro z hz;simp only[bytesOf,jC]at hz;obtain⟨i,_,rfl⟩:=hz;have:=zDl _ (zBw (fsB bs ws 0)) i;omega
     obtain⟨HSAME,HB1,HO3⟩:=uJ (zPu A1 A' n' n' c1 c' _ bs (w1.heap.size) w1 hN1 HL'.s hbytes HZ.s (Reads.of_own ho1) ((HR'.s.below (HB.s.trans (hb1.mono HB.s.size))).more (qN HB.s.size hb1.size))) (HB.s.trans (hb1.mono HB.s.size)) (zWd HO2.s hb1);clear ho1 hb1 hbytes hpk;rw[hN1];clear hN1;cases hsame:zHf (bytesOf (bH (fsB bs ws 0)) n') bs
     ·have HS2:=uT (by have h:=HSAME.s;rw[hsame]at h;exact h);have HP2:=uT (show dE ws bs=([],4)by rw[HP.s,if_neg];intro h;have:=HRE.s.2 h;rw[this,yEs]at hsame;cases hsame)
      clear HSAME hsame;go_wp2_with fail;refine HS2.s.mono ?_;rintro e w2 ⟨rfl,rfl⟩;go_wp2_with fail;go_ret2;exact⟨_,by rw[HP2.s];rfl,by rw[HP2.s];exact⟨qH _ _ _ _,HB1.s⟩⟩
     ·have HS2:=uT (by have h:=HSAME.s;rw[hsame]at h;exact h);have HP2:=uT (show dE ws bs=(zAu bs ws 0,0)by rw[HP.s,if_pos];exact HRE.s.1 (of_decide_eq_true hsame))
      clear HSAME hsame;go_wp2_with fail;refine HS2.s.mono ?_;rintro e w2 ⟨rfl,rfl⟩;go_wp2_with fail;go_ret2;exact⟨_,by rw[HP2.s];rfl,by rw[HP2.s];exact⟨HO3.s,HB1.s⟩⟩
  ·have HP:=uT (show dE ws bs=([],4)by rw[hu,if_pos (by rw[hl'];intro h;exact hne (by exact_mod_cast h))]);have hne':((n':Int) !=(N:Int))=true:=by rw[bne_iff_ne];intro h;exact hne (by exact_mod_cast h)
   clear HC hs hl hl' hu hN hw60 h40 hne;go_enter func97,ntmps97;go_wp2_with fail;refine HC2.s.mono ?_;rintro e w' ⟨rfl,rfl⟩;go_wp2_with fail;go_ret2;exact⟨_,by rw[HP.s];rfl,by rw[HP.s];exact⟨qH _ _ _ _,qC _ _⟩⟩
def Shf.cells(s:Shf)(v:Value):List Value:=[.int .i64 s.free,.int .i64 s.used,.int .i64 s.made,v]
structure ShAt(w:World)(base g o:Nat)(cs:Array Value)(s:Shf)(v:Value):Prop where
 blk:Blk w g 84 cs
 has:Has cs o (s.cells v)
 own:w.ownsRow base 161 3 v s.opn.length (s.opn.flatMap Hd.cells)
section
variable {w w':World}{base g o:Nat}{cs:Array Value}{s:Shf}{v:Value}
theorem ShAt.c0(h:ShAt w base g o cs s v):w.cell? ⟨g,o,none⟩=some (.int .i64 s.free):=h.blk.at_ h.has 0 rfl
theorem ShAt.c1(h:ShAt w base g o cs s v):w.cell? ⟨g,o+1,none⟩=some (.int .i64 s.used):=h.blk.at_ h.has 1 rfl
theorem ShAt.c2(h:ShAt w base g o cs s v):w.cell? ⟨g,o+2,none⟩=some (.int .i64 s.made):=h.blk.at_ h.has 2 rfl
theorem ShAt.c3(h:ShAt w base g o cs s v):w.cell? ⟨g,o+3,none⟩=some v:=h.blk.at_ h.has 3 rfl
theorem ShAt.fr(h:ShAt w base g o cs s v)(i:Nat):w.frozen? ⟨g,i,none⟩=false:=h.blk.frozen i
theorem ShAt.ne(h:ShAt w base g o cs s v):v.ownBlock≠some g:=bC h.own h.blk (by decide)
theorem ShAt.only{D:Nat->Prop}(h:ShAt w base g o cs s v)(ho:Only D w w')(h1:¬ D g)(h2:∀k,v.ownBlock=some k->¬ D k):ShAt w' base g o cs s v:=
 ⟨h.blk.only ho h1,h.has,bL h.own ho h2⟩
theorem ShAt.calm(h:ShAt w base g o cs s v)(hb:uR w w'):ShAt w' base g o cs s v:=
 h.only (D:=λk=>w.heap.size<=k) (Only.of_below hb λ_ _ h=>h) (by have:=h.blk.lt;omega) (λk hk=>by have:=(h.own.lt k hk).2;omega)
theorem ShAt.free_(h:ShAt w base g o cs s v)(x:Int):ShAt (w.setCell ⟨g,o,none⟩ (.int .i64 x)) base g o (putAt cs o (({s with free:=x}:Shf).cells v)) {s with free:=x} v:=
 ⟨h.blk.put_ (j:=0) h.has (by simp[Shf.cells]) _,Has.putAt _ _ _ (h.has.le (by simp[Shf.cells])),jS h.own (fV (World.grownBy.refl w (some g)) (.inl rfl) _) (.inr h.ne)⟩
theorem ShAt.used_(h:ShAt w base g o cs s v)(x:Int):ShAt (w.setCell ⟨g,o+1,none⟩ (.int .i64 x)) base g o (putAt cs o (({s with used:=x}:Shf).cells v)) {s with used:=x} v:=
 ⟨h.blk.put_ (j:=1) h.has (by simp[Shf.cells]) _,Has.putAt _ _ _ (h.has.le (by simp[Shf.cells])),jS h.own (fV (World.grownBy.refl w (some g)) (.inl rfl) _) (.inr h.ne)⟩
theorem ShAt.made_(h:ShAt w base g o cs s v)(x:Int):ShAt (w.setCell ⟨g,o+2,none⟩ (.int .i64 x)) base g o (putAt cs o (({s with made:=x}:Shf).cells v)) {s with made:=x} v:=
 ⟨h.blk.put_ (j:=2) h.has (by simp[Shf.cells]) _,Has.putAt _ _ _ (h.has.le (by simp[Shf.cells])),jS h.own (fV (World.grownBy.refl w (some g)) (.inl rfl) _) (.inr h.ne)⟩
theorem ShAt.open_{w1:World}{l:List Hd}{u:Value}(h:ShAt w base g o cs s v)(hb:Blk w1 g 84 cs)(hown:w1.ownsRow base 161 3 u l.length (l.flatMap Hd.cells)):ShAt (w1.setCell ⟨g,o+3,none⟩ u) base g o (putAt cs o (({s with opn:=l}:Shf).cells u)) {s with opn:=l} u:=
 ⟨hb.put_ (j:=3) h.has (by simp[Shf.cells]) _,Has.putAt _ _ _ (h.has.le (by simp[Shf.cells])),jS hown (fV (World.grownBy.refl w1 (some g)) (.inl rfl) _) (.inr (bC hown hb (by decide)))⟩
end
theorem yCu(l:List Hd)(k:Nat)(h:Hd)(hk:l[k]? =some h):cW (l.take (k+1))=cW (l.take k)+h.count:=by rw[dB l k h hk,zGp];simp[cW]
theorem yBn{l:List Hd}(h:∀x∈l,0<=x.count/\x.count<=1048576):0<=cW l/\cW l<=1048576*l.length:=by
 induction l with
 |nil=>simp[cW]
 |cons x l ih=>have:=h x (by simp);have:=ih (λy hy=>h y (by simp[hy]));simp[cW];omega
theorem zIb(base g o:Nat)(cs:Array Value)(s:Shf)(v:Value)(w:World)(h:ShAt w base g o cs s v)(hl:s.opn.length<=4)(hc:∀x∈s.opn,0<=x.count/\x.count<=1048576):Calls prog 49 #[.pointer (some ⟨g,o,none⟩)] w λe w'=>e= .returned (.int .i64 (cW s.opn))/\uR w w':=by
 obtain⟨A,c,rfl,hnc⟩:=bE h.own;have c3:=h.c3;obtain⟨HR,HC⟩:=uI (Reads.of_own h.own) hc;obtain⟨n,hn⟩:=kB s.opn.length;rw[<-hn]at c3 hl hnc HR;have HN:=uT hn.symm;clear h hn hc;go_enter func49,ntmps49;go_wp2_with fail
 go_loopw [2,10] (λx i wr=>∃k:Nat,k<=n/\i= .int .i64 k/\x= .int .i64 (cW (s.opn.take k))/\uR w wr) (λ_ i _=>n-(intOf i).toNat)
 case atStart=>exact⟨0,qL _,rfl,rfl,qC _ _⟩
 case round=>
  obtain⟨k,hk,rfl,rfl,hb⟩:=hrel;by_cases hlt:k<n
  ·obtain⟨b,p,x,rfl,_,hx,hcx⟩:=fB Hd.cells_len (by omega) (HR.s.below hb) hlt HN.s;have e0:=hcx 0 _ rfl;have e1:=hcx 1 _ rfl;have e2:=hcx 2 _ rfl;simp only[Nat.add_zero]at e0;have hkn:(k:Int)<(n:Int):=by omega
   have HS:=uT (yCu s.opn k x hx);have hbd:=yBn (l:=s.opn.take k) λy hy=>HC.s y (List.mem_of_mem_take hy)
   have hlk:((s.opn.take k).length:Int)<=4:=by have:(s.opn.take k).length<=k:=List.length_take_le _ _;omega
   have hxb:=HC.s x (qB hx);obtain⟨hb1,hb2⟩:=hbd;obtain⟨hx1,hx2⟩:=hxb;have hb3:cW (s.opn.take k)<=4194304:=by omega
   generalize cW (s.opn.take k)=q at*;clear hx hcx hb2 hlk;go_wp2_with fail;go_roundw
   case rel=>exact⟨k+1,by omega,by go_num,by rw[HS.s],hb.alloc hb.size _⟩
   case measure=>simp[intOf];omega
  ·obtain rfl:k=n:=by omega
   go_wp2_with fail;go_ret;exact⟨fG (by rw[qS (by rw[HN.s];exact qA _)]),hb⟩
theorem zLa(base g o:Nat)(cs:Array Value)(s:Shf)(v:Value)(w:World)(h:ShAt w base g o cs s v)(hl:s.opn.length<=4)(hc:∀x∈s.opn,0<=x.count/\x.count<=1048576):Calls prog 27 #[.pointer (some ⟨g,o,none⟩)] w λe w'=>e= .returned (s.stock 0 0).val/\uR w w':=by
 obtain⟨wx,hwx⟩:=kB (w.alloc (.cells #[.int .i64 0,.int .i64 0,.int .i64 0,.int .i64 0,.int .i64 0] 40));have hbx:=uH hwx;have hsx:wx.heap.size=w.heap.size+1:=by rw[hwx];simp
 have hx:=h.calm hbx;have c0:=λn:Ext wx=>n.cell hx.c0
 have c1:=λn:Ext wx=>n.cell hx.c1
 have HH:=uT (λW (hW:uR wx W)=>zIb base g o cs s v W (hx.calm hW) hl hc);have hk:Blk wx w.heap.size 40 #[.int .i64 0,.int .i64 0,.int .i64 0,.int .i64 0,.int .i64 0]:=by rw[hwx];exact Blk.new w 40 _
 obtain⟨HK,HWX,HBX⟩:=uJ hk hwx hbx;clear hx h hl hc hwx hbx hsx hk;go_enter func27,ntmps27;go_wp2_with fail;rw[<-HWX.s];refine gF 11 (by kernel_rfl) (by kernel_rfl) ?_;simp only[qX,jE,qZ,jL]
 repeat(go_big_quiet_step ((go_at_call 49;exact fT (HH.s _ (Ext.h _)))))
 refine qF ?_;rintro _ ⟨nq,rfl⟩;have HK2:=uT (HK.s.below nq.h (Blk.lt HK.s));have d0:=HK2.s.cell 0;have d1:=HK2.s.cell 1;have d2:=HK2.s.cell 2;have d3:=HK2.s.cell 3;have d4:=HK2.s.cell 4;have f0:=HK2.s.frozen 0;have f1:=HK2.s.frozen 1;have f2:=HK2.s.frozen 2;have f3:=HK2.s.frozen 3;have f4:=HK2.s.frozen 4;go_wp2_with fail;refine bodyPost_ret (v:=(s.stock 0 0).val) (by simp[results,Tryz.results27,go_sem,d0,d1,d2,d3,d4];rfl) rfl ⟨rfl,?_⟩;exact((((((HBX.s.trans (nq.h.mono HBX.s.size)).setCell (qA _) _).setCell (qA _) _).setCell (qA _) _).setCell (qA _) _).setCell (qA _) _)
theorem zJy(p:Value)(g a b:Nat)(x n:Int)(w:World)(ha:w.cell? ⟨g,a,none⟩=some (.int .i64 x))(hlt:x<n):Calls prog 119 #[p,.pointer (some ⟨g,a,none⟩),.pointer (some ⟨g,b,none⟩),.int .i64 n] w λe w'=>e= .returned (.int .i64 9)/\w=w':=by go_enter func119,ntmps119;go_wp2_with fail;go_ret;exact⟨rfl,rfl⟩
theorem zMn(p:Value)(g a b:Nat)(x y n:Int)(w:World)(ha:w.cell? ⟨g,a,none⟩=some (.int .i64 x))(hb:w.cell? ⟨g,b,none⟩=some (.int .i64 y))(fa:w.frozen? ⟨g,a,none⟩=false)(fb:w.frozen? ⟨g,b,none⟩=false)(hab:a≠b)(hlt:n<=x)(h0:0<=n)(hx:x<=1048576)(hy0:0<=y)(hy:y<=1048576):Calls prog 119 #[p,.pointer (some ⟨g,a,none⟩),.pointer (some ⟨g,b,none⟩),.int .i64 n] w λe w'=>e= .returned (.int .i64 0)/\(w.setCell ⟨g,a,none⟩ (.int .i64 (x-n))).setCell ⟨g,b,none⟩ (.int .i64 (y+n))=w':=by
 have hne:(⟨g,a,none⟩:Addr)≠⟨g,b,none⟩:=λe=>hab (by injection e)
 have hb2:(w.setCell ⟨g,a,none⟩ (.int .i64 (x-n))).cell? ⟨g,b,none⟩=some (.int .i64 y):=(World.cell?_setCell_other w ⟨g,a,none⟩ ⟨g,b,none⟩ _ hne).trans hb;have hge:¬ x<n:=by omega
 clear hab hne;go_enter func119,ntmps119;go_wp2_with fail;go_ret;exact⟨rfl,rfl⟩
theorem yHz:(prog.info? 161).map (λi=>(i.zero,i.size,i.bytes))=some (some (.agg #[.int .i64 0,.int .i64 0,.int .i64 0]),3,24):=by kernel_rfl
theorem zNr:∃i,prog.info? 161=some i/\i.zero=some (.agg #[.int .i64 0,.int .i64 0,.int .i64 0])/\i.size=3/\i.bytes=24:=by
 have h:=yHz;cases hi:prog.info? 161 with
 |none=>rw[hi]at h;simp at h
 |some i=>rw[hi]at h;simp at h;exact⟨i,rfl,h.1,h.2.1,h.2.2⟩
def zDu(base g o:Nat)(cs:Array Value)(v:Value)(w:World)(r:Shf×Int×Int)(e:Ending)(w':World):Prop:=
 ∃v',e= .returned (.tuple #[.int .i64 r.2.1,.int .i64 r.2.2])/\ShAt w' base g o (putAt cs o (r.1.cells v')) r.1 v'/\Only (λk=>k=g\/v.ownBlock=some k) w w'/\(∀k,v'.ownBlock=some k->v.ownBlock=some k\/w.heap.size<=k)
theorem zBi{base g o:Nat}{cs:Array Value}{s:Shf}{v:Value}{w w':World}{a b:Int}(h:ShAt w' base g o cs s v)(hb:uR w w'):zDu base g o cs v w (s,a,b) (.returned (.tuple #[.int .i64 a,.int .i64 b])) w':=
 ⟨v,rfl,by rw[zFw cs o _ h.has];exact h,Only.of_below hb λx hx hB=>by omega,λk hk=> .inl hk⟩
def zGb(s:Shf)(o:Ordr):Shf×Int×Int:=
 if o.life<1\/20<o.life then(s,0,2)else if s.opn.length=4 then(s,0,8)else if s.free<o.count then(s,0,9)
 else(⟨s.free-o.count,s.used,s.made+1,s.opn++[⟨s.made+1,o.count,o.life⟩]⟩,s.made+1,0)
theorem zWk(base g o:Nat)(cs:Array Value)(s:Shf)(v:Value)(w:World)(od:Ordr)(K:Int)(h:ShAt w base g o cs s v)(hs:s.ok K)(hK:K<=1000000)(hc:1<=od.count)(hc2:od.count<=1048576)(hB:base<=w.heap.size):Calls prog 120 #[.pointer (some ⟨g,o,none⟩),od.val] w (zDu base g o cs v w (zGb s od)):=by
 obtain⟨kind,n,life,id⟩:=od;unfold Ordr.val;dsimp only at hc hc2⊢;obtain⟨wx,hwx⟩:=kB (w.alloc (.cells #[.int .i64 kind,.int .i64 n,.int .i64 life,.int .i64 id] 130));have hbx:=uH hwx;have hsx:wx.heap.size=w.heap.size+1:=by rw[hwx];simp
 have k0:Blk wx w.heap.size 130 #[.int .i64 kind,.int .i64 n,.int .i64 life,.int .i64 id]:=by rw[hwx];exact Blk.new w 130 _
 have hx:=h.calm hbx;have q1:=k0.cell 1;have q2:=k0.cell 2;have c0:=hx.c0;have c2:=hx.c2;have c3:=hx.c3;have f0:=hx.fr o;have hf0:=hs.free0;have hm0:=hs.made0;have hmK:=hs.madeK;have hll:=hs.len;have hfr:s.free<=1048576:=by
  have h1:=hs.all;have h2:=hs.used0;have h3:0<=cW s.opn:=zEl λx hx=>by have:=hs.each x hx;omega
  omega
 obtain⟨HX,HBX,HWX⟩:=uJ hx hbx hwx;obtain⟨A,c,rfl,hnc⟩:=bE h.own;have hgx:g<wx.heap.size:=hx.blk.lt;have hgw:g<w.heap.size:=h.blk.lt;have HK0:=uT k0;have hne:g≠w.heap.size:=by omega
 clear hx h hbx hs k0;obtain⟨m,hm⟩:=kB s.opn.length;have HM:=uT hm;rw[<-hm]at c3 hll;have q1a:=q1;have q2a:=q2;have c0a:=c0;have c2a:=c2;have c3a:=c3;rw[hwx]at q1a q2a c0a c2a c3a;clear hwx hm;by_cases h1:life<1\/20<life
 ·have HF:=uT (show zGb s ⟨kind,n,life,id⟩=(s,0,2)by unfold zGb;rw[if_pos h1]);by_cases h2:life<1
  ·clear h1;go_enter func120,ntmps120;go_wp2_with fail;go_ret2;rw[HF.s,<-HWX.s];exact zBi HX.s HBX.s
  ·have h3:20<life:=by omega
   have h2':1<=life:=by omega
   clear h1 h2;go_enter func120,ntmps120;go_wp2_with fail;go_ret2;rw[HF.s,<-HWX.s];exact zBi HX.s HBX.s
 have h1a:1<=life:=by omega
 have h1b:life<=20:=by omega
 by_cases h4:m=4
 ·have HF:=uT (show zGb s ⟨kind,n,life,id⟩=(s,0,8)by unfold zGb;rw[if_neg h1,if_pos (by rw[<-HM.s];exact h4)]);subst h4;clear h1;go_enter func120,ntmps120;go_wp2_with fail;go_ret2;rw[HF.s,<-HWX.s];exact zBi HX.s HBX.s
 have h4':((m:Int)==4)=false:=by simp;omega
 have h4'':(m==4)=false:=by simpa using h4
 by_cases h5:s.free<n
 ·obtain⟨HF,HBXn⟩:=uI (show zGb s ⟨kind,n,life,id⟩=(s,0,9)by unfold zGb;rw[if_neg h1,if_neg (by rw[<-HM.s];exact h4),if_pos h5]) (λk=>below_drewN HBX.s k);clear h1 h4;go_enter func120,ntmps120;go_wp2_with fail;rw[<-HWX.s];go_quiet (fail);go_wp2_with fail;go_ret2;rw[HF.s];exact zBi (HX.s.calm (below_drewN (qC _ _) nq)) (HBXn.s nq)
 have HF:=uT (show zGb s ⟨kind,n,life,id⟩=(⟨s.free-n,s.used,s.made+1,s.opn++[⟨s.made+1,n,life⟩]⟩,s.made+1,0)by unfold zGb;rw[if_neg h1,if_neg (by rw[<-HM.s];exact h4),if_neg h5]);have h5':n<=s.free:=by omega
 clear h1 h4 h5;go_enter func120,ntmps120;go_wp2_with fail;rw[<-HWX.s];go_quiet (fail);go_wp2_with fail;obtain⟨wn,hwn⟩:=kB (wx.drewN nq);have hbn:uR wx wn:=by rw[hwn];exact below_drewN (qC _ _) nq
 obtain⟨HBN,HXN⟩:=uI hbn (HX.s.calm hbn);have k0n:=HK0.s.below hbn (Blk.lt HK0.s);rw[<-hwn];clear q1a q2a c0a c2a c3a c0 c2 c3 f0 q1 q2 hwn hbn;have e0:=HXN.s.c0;have e2:=HXN.s.c2;have e3:=HXN.s.c3;rw[<-HM.s]at e3;have f0:=HXN.s.fr o;have f2:=HXN.s.fr (o+2);have p1:=k0n.cell 1;have p2:=k0n.cell 2;clear k0n;refine bV 9 (by kernel_rfl) (by kernel_rfl) ?_;simp only[qX,jE,qZ,jL]
 repeat(go_big_quiet_step (fail))
 refine qF ?_;rintro _ ⟨nq2,rfl⟩;go_wp2_with fail;clear e0 e2 e3 f0 f2 p1 p2;obtain⟨w2,hw2⟩:=kB (((wn.drewN nq2).setCell ⟨g,o,none⟩ (.int .i64 (s.free-n))).setCell ⟨g,o+2,none⟩ (.int .i64 (s.made+1)));rw[<-hw2];have hx2:=((ShAt.calm HXN.s (below_drewN (qC _ _) nq2)).free_ (s.free-n)).made_ (s.made+1);rw[<-hw2,zBm _ _ _ _ (by simp[Shf.cells])]at hx2;have hO2:Only (λk=>k=g) wn w2:=by rw[hw2];exact Only.setCell (D:=λk=>k=g) (Only.setCell (D:=λk=>k=g) ((Only.refl _ wn).drewN nq2) (p:=⟨g,o,none⟩) (λ_=>rfl) _) (p:=⟨g,o+2,none⟩) (λ_=>rfl) _
 have k02:=Blk.only (HK0.s.below HBN.s (Blk.lt HK0.s)) hO2 (Ne.symm hne);obtain⟨HO2,HX2⟩:=uI hO2 hx2;have e2:=hx2.c2;have e3:=hx2.c3;rw[<-HM.s]at e3;have p1:=k02.cell 1;have p2:=k02.cell 2;have hg2:g<w2.heap.size:=hx2.blk.lt;have hB2:base<=w2.heap.size:=qN hB (qN HBX.s.size (qN HBN.s.size hO2.size));obtain⟨i0,hi,hz0,hz1,hz2⟩:=zNr;have hMb:(s.opn.length+1)*24<=140737488355328:=by rw[<-HM.s];omega
 dsimp only at e2;clear hw2 hx2 k02 hO2;have ce2:=λn:Ext w2=>n.cell e2
 have ce3:=λn:Ext w2=>n.cell e3
 have cp1:=λn:Ext w2=>n.cell p1
 have cp2:=λn:Ext w2=>n.cell p2
 clear e2 e3 p1 p2;refine bO [0] [1,2,3,4,5,6,7,8,9,10,11,12,13] [] [14] 15 [16,17,18] (by kernel_rfl) (by kernel_rfl) (by intro c a d v w h;cases d<;>exact h) ?_;simp only[bB,qJ,qO,qD,qE]
 repeat(go_big_quiet_step (fail))
 refine qF ?_
 repeat(go_big_quiet_step (fail))
 refine qF (qF ?_);rintro _ ⟨nq3,rfl⟩;simp only[fJ];go_wp2_with fail;refine⟨⟨⟨_,nq3.h.alloc nq3.h.size _⟩,rfl⟩,?_⟩;have HX3:=uT (ShAt.calm HX2.s nq3.h);have hs3:=nq3.h.size;go_wp2_with(first
  |(at_builtin;(refine bF _ rfl (.tmp 50) (.tmp 60) _ rfl base 161 i0 _ 3 24 underlying82 hi hz0 hz1 hz2 rfl (by omega) (by omega) _ _ _ HX3.s.own (by rw[<-HM.s];rfl) _ 1 _ rfl rfl rfl (by simp[Value.oneCell']) hMb (qN hB2 hs3) ?_);intro g4 cap4 w4 hg4 hown4 hbel4 hgr4 hat4;have hM4:=Blk.grown HX3.s.blk hgr4 (Ne.symm HX3.s.ne);have hu:=hM4.at_ HX3.s.has 3 rfl;have hu2:=hM4.at_ HX3.s.has 2 rfl;have fu:=hM4.frozen (o+3);have HK4:=uT (And.intro hg4 (And.intro hown4 (And.intro hgr4 (And.intro hat4 hM4))));clear hg4 hown4 hbel4 hgr4 hat4 hM4))
 go_ret2;obtain⟨hg4,hown4,hgr4,hat4,hM4⟩:=HK4.s;rw[HF.s];have hfin:=ShAt.open_ (l:=s.opn++[⟨s.made+1,n,life⟩]) HX3.s hM4 (by rw[qM,jN];simpa[Hd.cells]using hown4);rw[zBm _ _ _ _ (by simp[Shf.cells])]at hfin;refine⟨_,rfl,hfin,?_,λk hk=> ?_⟩
 ·have h1:Only (λk=>k=g\/Value.ownBlock (.slice A s.opn.length c)=some k) w wx:=Only.of_below HBX.s λx hx hB=>by omega
  exact Only.setCell ((((h1.calm HBN.s).trans HO2.s λx _ h=> .inl h).calm nq3.h).grown hgr4 λx hx _=> .inr hx) (λ_=> .inl rfl) _
 ·have hk':g4=k:=by simpa[Value.ownBlock]using hk
  rcases hat4 with h1|h1
  ·exact .inl (by rw[<-hk',h1])
  ·right
   have:=HBX.s.size;have:=HBN.s.size;have:=HO2.s.size;omega
theorem zUn:(prog.info? 3).map (λi=>(i.zero,i.size,i.bytes))=some (some (.int .i64 0),1,8):=by kernel_rfl
theorem zUt(A:Option Addr)(n c:Nat)(ws:List Int)(lv:Int)(B:Nat)(w:World)(hl:ws.length=n)(hn:n<=16)(hw:∀z∈ws,0<=z/\z<=1048576)(h0:0<=lv)(h1:lv<=1048577)(hr:Reads w B 1 A n (ws.map (.int .i64))):Calls prog 131 #[.slice A n c,.int .i64 lv] w λe w'=>e= .returned (.int .i64 (cE ws lv))/\w=w':=by
 obtain⟨HR,HL,HW⟩:=uJ hr hl hw;clear hr hl hw;go_enter func131,ntmps131;go_wp2_with fail
 go_loop [4,9] (λs i=>∃(k:Nat) (s0:Int),k<=n/\i= .int .i64 k/\s= .int .i64 s0/\0<=s0/\s0<=1048576*k/\uS (s0+cE (ws.drop k) lv=cE ws lv)) (λ_ i=>n-(intOf i).toNat)
 case atStart=>exact⟨0,0,qL _,rfl,rfl,by omega,by omega,by show 0+cE (ws.drop 0) lv=cE ws lv;simp⟩
 case round=>
  obtain⟨k,s0,hk,rfl,rfl,hs0,hs1,HI⟩:=hrel;by_cases hlt:k<n
  ·obtain⟨b,o,z,rfl,_,hz,hc⟩:=dQ HR.s hlt;have hzb:=HW.s z (qB hz);have HI2:=uT (show(s0+min z lv)+cE (ws.drop (k+1)) lv=cE ws lv by have h:=HI.s;rw[cZ ws k z hz,cE]at h;omega)
   have hz0:=hzb.1;have hz1:=hzb.2;clear HI hz hzb;by_cases hm:z<=lv
   ·have HI3:=uT (show(s0+z)+cE (ws.drop (k+1)) lv=cE ws lv by have h:=HI2.s;rw[Int.min_eq_left hm]at h;exact h);go_wp2_with fail
    go_round
    case rel=>exact⟨k+1,s0+z,by omega,by go_num,rfl,by omega,by omega,HI3.s⟩
    case measure=>simp[intOf];omega
   ·have HI3:=uT (show(s0+lv)+cE (ws.drop (k+1)) lv=cE ws lv by have h:=HI2.s;rw[Int.min_eq_right (by omega)]at h;exact h);have hm':lv<z:=by omega
    clear hm;go_wp2_with fail
    go_round
    case rel=>exact⟨k+1,s0+lv,by omega,by go_num,rfl,by omega,by omega,HI3.s⟩
    case measure=>simp[intOf];omega
  ·obtain rfl:k=n:=by omega
   have HF:=uT (show s0=cE ws lv by have h:=HI.s;rw[qW (by rw[HL.s];exact qA _),cE]at h;omega)
   clear HI;go_wp2_with fail;go_ret;exact⟨fG HF.s,rfl⟩
theorem zXo(A:Option Addr)(n c:Nat)(ws:List Int)(total lv:Int)(B:Nat)(w:World)(pw pt:Addr)(hl:ws.length=n)(hn:n<=16)(hw:∀z∈ws,0<=z/\z<=1048576)(h0:0<=lv)(h1:lv<=1048577)(hr:Reads w B 1 A n (ws.map (.int .i64)))(cw:w.cell? pw=some (.slice A n c))(ct:w.cell? pt=some (.int .i64 total)):Calls prog 130 #[.int .i64 lv,.pointer (some pw),.pointer (some pt)] w λe w'=>e= .returned (.bool (decide (total<cE ws lv)))/\∃m,w.drewN m=w':=by have HC:=uT (λq:Nat=>zUt A n c ws lv B (w.drewN q) hl hn hw h0 h1 (hr.drewN q));clear hr hl hw;go_enter func130,ntmps130;go_wp2_with fail;go_quiet ((go_at_call 131;exact yEe (HC.s _)));go_wp2_with fail;go_ret;exact⟨rfl,_,rfl⟩
theorem yFc(args:Array Value)(W:World):(callFunc 130 args).run prog W= .ok (.enter 130 args) W:=
 zAi func130 (by kernel_rfl) rfl args W
theorem yCs(fn:FuncId)(cap:Array Value)(f:Int->Bool)(N:Nat)(hN:N<=2000000)(w:World)(hrun:∀args W,(callFunc fn args).run prog W= .ok (.enter fn args) W)(h:∀(k:Nat) (q:Nat),k<N->Calls prog fn (#[.int .i64 k]++cap) (w.drewN q) λe w'=>e= .returned (.bool (f k))/\∃m,(w.drewN q).drewN m=w'):Calls prog 129 #[.int .i64 N,.func (.func fn) #[] cap] w λe w'=>∃i:Nat,e= .returned (.int .i64 i)/\i<=N/\(i=0\/f ((i:Int)-1)=false)/\(i=N\/f i=true)/\∃m,w.drewN m=w':=by
 have H:=uT h;clear h;go_enter func129,ntmps129
 go_wp2
 go_loopw [5,6] (λx y wr=>∃i j q:Nat,i<=j/\j<=N/\x= .int .i64 i/\y= .int .i64 j/\wr=w.drewN q/\uS ((i=0\/f ((i:Int)-1)=false)/\(j=N\/f j=true))) (λx y _=>(intOf y-intOf x).toNat)
 case atStart=>exact⟨0,N,0,qL _,qA _,rfl,rfl,rfl,.inl rfl,.inl rfl⟩
 case round=>
  obtain⟨i,j,q,hij,hjN,rfl,rfl,rfl,HI⟩:=hrel;by_cases hlt:i<j
  ·have hk:(i+j)/2<N:=by omega
   have hmid:IntKind.u64.wrap ((i:Int)+(j:Int))=(i:Int)+(j:Int):=by simp[IntKind.wrap,IntKind.bits,IntKind.signed];omega
   have e2:(((i+j)/2:Nat):Int)=((i:Int)+(j:Int))/2:=by omega
   have Hk:=H.s ((i+j)/2) q hk;rw[e2]at Hk;have HI2:=uT HI.s;clear HI;cases hf:f (((i:Int)+(j:Int))/2)with
   |true=>
    rw[hf]at Hk;obtain⟨Hf,HK⟩:=uI hf Hk;clear hf Hk;go_wp2_with fail;refine HK.s.mono ?_;rintro e w2 ⟨rfl,m,rfl⟩;go_wp2_with fail
    go_round
    case rel=>refine⟨i,(i+j)/2,q+m,by omega,by omega,rfl,by rw[<-e2],rfl,HI2.s.1,.inr ?_⟩;rw[e2];exact Hf.s
    case measure=>simp[intOf];omega
   |false=>
    rw[hf]at Hk;obtain⟨Hf,HK⟩:=uI hf Hk;clear hf Hk;go_wp2_with fail;refine HK.s.mono ?_;rintro e w2 ⟨rfl,m,rfl⟩;go_wp2_with fail
    go_round
    case rel=>refine⟨(i+j)/2+1,j,q+m,by omega,by omega,by rw[<-e2];rfl,rfl,rfl,.inr ?_,HI2.s.2⟩;rw[Int.natCast_add,e2];simpa using Hf.s
    case measure=>simp[intOf];omega
  ·obtain rfl:i=j:=by omega
   have HI2:=uT HI.s;clear HI;go_wp2_with fail;go_ret;exact⟨i,rfl,hjN,HI2.s.1,HI2.s.2,q,rfl⟩
inductive OT where
 |done:OT
 |next:Nat->OT->OT
 |fork:OT->OT->OT
def OT.keys:OT->List Nat
 | .done=>[]
 | .next k _=>[k]
 | .fork a b=>a.keys++b.keys
section
variable {P:Program}{ops:Array Oper}{Q:Exit->Act->World->Prop}{md:Region.Mode}{C:World->Prop}
def OT.chk(md:Region.Mode)(ops:Array Oper):OT->Array Bool->Bool×Bool
 | .done,listed=>((Region.ready md ops listed).isEmpty,true)
 | .next k t,listed=>(decide (Region.ready md ops listed=[k])&&((ops[k]?).isSome&&(t.chk md ops (listed.setIfInBounds k true)).1),(ops[k]?).isSome&&(t.chk md ops (listed.setIfInBounds k true)).1)
 | .fork a b,listed=>(decide (Region.ready md ops listed=a.keys++b.keys)&& !(a.keys++b.keys).isEmpty&&(a.chk md ops listed).2&&(b.chk md ops listed).2,(a.chk md ops listed).2&&(b.chk md ops listed).2)
def OT.ok(md:Region.Mode)(ops:Array Oper)(t:OT)(listed:Array Bool):Bool:=(t.chk md ops listed).1
def OT.kids(md:Region.Mode)(ops:Array Oper)(t:OT)(listed:Array Bool):Bool:=(t.chk md ops listed).2
theorem OT.ok_done(listed:Array Bool):OT.ok md ops .done listed=(Region.ready md ops listed).isEmpty:=rfl
theorem OT.ok_next(k:Nat)(t:OT)(listed:Array Bool):OT.ok md ops (.next k t) listed=(decide (Region.ready md ops listed=[k])&&OT.kids md ops (.next k t) listed):=rfl
theorem OT.ok_fork(a b:OT)(listed:Array Bool):OT.ok md ops (.fork a b) listed=(decide (Region.ready md ops listed=a.keys++b.keys)&& !(a.keys++b.keys).isEmpty&&OT.kids md ops a listed&&OT.kids md ops b listed):=rfl
theorem OT.kids_next(k:Nat)(t:OT)(listed:Array Bool):OT.kids md ops (.next k t) listed=((ops[k]?).isSome&&OT.ok md ops t (listed.setIfInBounds k true)):=rfl
theorem OT.kids_fork(a b:OT)(listed:Array Bool):OT.kids md ops (.fork a b) listed=(OT.kids md ops a listed&&OT.kids md ops b listed):=rfl
def OT.depth:OT->Nat
 | .done=>0
 | .next _ t=>t.depth+1
 | .fork a _=>a.depth
def OT.even:OT->Bool
 | .done=>true
 | .next _ t=>t.even
 | .fork a b=>a.even&&b.even&&decide (a.depth=b.depth)
def wpT(P:Program)(l:List Oper)(Q:Exit->Act->World->Prop)(C:World->Prop)(cal:List Nat):OT->Act->World->Prop
 | .done,a,w=>Q .normal a w
 | .next k t,a,w=>wpList P l.toArray (λe a' w'=>match e with| .normal=>(k∈cal->C w')/\wpT P l Q C cal t a' w'|e=>Q e a' w') (bB l [k]) a w
 | .fork s t,a,w=>wpT P l Q C cal s a w/\wpT P l Q C cal t a w
theorem zKc{l:List Oper}{cal:List Nat}:∀(t:OT) (n:Nat) (listed:Array Bool) (a:Act) (w:World),t.depth<=n->t.even=true-> (t.kids md l.toArray listed=true->wpT P l Q C cal t a w->∀i∈t.keys,wpOp P l.toArray Q i (λa' w'=>(i∈cal->C w')/\wpS P md l.toArray Q C cal (t.depth-1) (listed.setIfInBounds i true) a' w') a w)/\ (t.ok md l.toArray listed=true->wpT P l Q C cal t a w->wpS P md l.toArray Q C cal t.depth listed a w):=by
 intro t
 induction t with
 |done=>intro n listed a w _ _;exact⟨(λ_ _ i hi=>by cases hi),λh hw=>⟨by rw[OT.ok_done]at h;simpa using h,hw⟩⟩
 |next k t ih=>
  intro n listed a w hn he;have hk:(OT.next k t).kids md l.toArray listed=true->wpT P l Q C cal (.next k t) a w->∀i∈(OT.next k t).keys,wpOp P l.toArray Q i (λa' w'=>(i∈cal->C w')/\wpS P md l.toArray Q C cal ((OT.next k t).depth-1) (listed.setIfInBounds i true) a' w') a w:=by intro h hw i hi;simp only[OT.keys,jJ]at hi;subst hi;simp only[OT.kids_next,qT]at h;obtain⟨o,ho⟩:=Option.isSome_iff_exists.1 h.1;simp only[wpT]at hw;rw[zHu [] ho]at hw;exact wpOp_mono (λa' w' h'=>⟨h'.1,(ih t.depth _ a' w' (qA _) he).2 h.2 h'.2⟩) (zGv ho hw)
  refine⟨hk,λh hw=> ?_⟩;simp only[OT.ok_next,qT,decide_eq_true_eq]at h;refine⟨λh0=>(by rw[h.1]at h0;cases h0),λi hi=> ?_⟩;rw[h.1]at hi;exact hk h.2 hw i hi
 |fork s t ihs iht=>
  intro n listed a w hn he;simp only[OT.even,qT,decide_eq_true_eq]at he;have hk:(OT.fork s t).kids md l.toArray listed=true->wpT P l Q C cal (.fork s t) a w->∀i∈(OT.fork s t).keys,wpOp P l.toArray Q i (λa' w'=>(i∈cal->C w')/\wpS P md l.toArray Q C cal ((OT.fork s t).depth-1) (listed.setIfInBounds i true) a' w') a w:=by
   intro h hw i hi;simp only[OT.kids_fork,qT]at h;simp only[wpT]at hw;rcases jI.1 hi with hi|hi
   ·exact(ihs s.depth listed a w (qA _) he.1.1).1 h.1 hw.1 i hi
   ·have h2:=(iht t.depth listed a w (qA _) he.1.2).1 h.2 hw.2 i hi;rw[<-he.2]at h2;exact h2
  refine⟨hk,λh hw=> ?_⟩;simp only[OT.ok_fork,qT,decide_eq_true_eq]at h;obtain⟨⟨⟨hr,hne⟩,h1⟩,h2⟩:=h;have hpos:∀(t:OT),t.keys≠[]->t.even=true->0<t.depth:=by
   intro t
   induction t with
   |done=>intro h;exact absurd rfl h
   |next k t _=>intro _ _;simp[OT.depth]
   |fork a b iha ihb=>
    intro h he;simp only[OT.even,qT,decide_eq_true_eq]at he;simp only[OT.depth];by_cases ha:a.keys=[]
    ·rw[he.2];exact ihb (λhb=>h (by simp[OT.keys,ha,hb])) he.1.2
    ·exact iha ha he.1.1
  have hd:0<(OT.fork s t).depth:=hpos (.fork s t) (λe=>by simp only[OT.keys]at e;rw[e]at hne;simp at hne) (by simp[OT.even,he]);obtain⟨d,hd2⟩:∃d,(OT.fork s t).depth=d+1:=⟨(OT.fork s t).depth-1,by omega⟩;rw[hd2];refine⟨λh0=>(by rw[hr]at h0;rw[h0]at hne;simp at hne),λi hi=> ?_⟩;rw[hr]at hi;have h3:=hk (by rw[OT.kids_fork,h1,h2];rfl) hw i hi;rw[hd2]at h3;exact h3
def treeB(md:Region.Mode)(ops:Array Oper)(z hb al:List Nat)(u:Nat)(tl:List Nat)(t:OT):Bool:=
 Region.noSelect ops&&zEk md ops u (hb++al)&&zFv md ops u tl&&
  (hb++al).all (λi=> !(u::tl).contains i)&&(u::tl).all (λi=>decide (i<ops.size))&&z.all (λi=>decide (i<ops.size))&&
  decide (z.length+(hb.length+t.depth)=ops.size)&&t.even&&(List.range ops.size).all (λj=>z.contains j||(hb++al).contains j||(u::tl).contains j)&&
  zBy md ops (u::tl) z (Array.replicate ops.size false)&&hbBy md ops hb (fN (Array.replicate ops.size false) z)&&t.ok md ops (fN (fN (Array.replicate ops.size false) z) hb)
theorem zTk{id:Nat}{a:Act}{w:World}{l:List Oper}(z hb al:List Nat)(u:Nat)(tl:List Nat)(t:OT)(hm:P.follows .mixedOrders=true)(hB:treeB .any l.toArray z hb al u tl t=true)(hQ:∀c a d v w,Q (.panic c) (a.put d v) w->Q (.panic c) a w)(hC:C {w with drawn:=w.drawn+1})(h:wpQuiet P l.toArray (λ_=>True) (wpQuiet P l.toArray C (λa'=>wpT P l Q C (hb++al) t a' {w with drawn:=w.drawn+1}) (bB l hb)) (bB l z) a):(Code.region id l.toArray true).wp P Q a w:=by
 simp only[treeB,qT,decide_eq_true_eq,uE]at hB;obtain⟨⟨⟨⟨⟨⟨⟨⟨⟨⟨⟨hsel,hs1⟩,hc1⟩,hd1⟩,hlt⟩,hzlt⟩,hlen⟩,hev⟩,hcov⟩,hz⟩,hhb⟩,htree⟩:=hB;have hdis:∀k∈u::tl,k∉hb++al:=λk hk hc=>by have:=hd1 k hc;simp only[Bool.not_eq_true',List.contains_eq_mem,decide_eq_false_iff_not]at this;exact this hk
 have inv0:HeadBy .any l.toArray (u::tl) (Array.replicate l.toArray.size false):=
  ⟨by simp,λj oj _ hl=>(by rw[getD_replicate_false]at hl;cases hl),λx hx=>getD_in (by have:=hlt x hx;simpa using this) (getD_replicate_false _ _)⟩
 have inv1:=HeadBy.setAll z _ inv0 hz;have hI1:∀listed j,(HeadBy .any l.toArray (u::tl) listed/\∀k∈z,listed.getD k false=true)->j∈Region.ready .any l.toArray listed->j∈hb++al->(HeadBy .any l.toArray (u::tl) (listed.setIfInBounds j true)/\∀k∈z,(listed.setIfInBounds j true).getD k false=true):=
  λlisted j h hj hc=>⟨h.1.set hj (λhx=>hdis j hx hc),λk hk=>getD_set_true (h.2 k hk)⟩
 have hw1:∀i,i∈hb++al->∀listed j,(HeadBy .any l.toArray (u::tl) listed/\∀k∈z,listed.getD k false=true)->listed.getD i true=false->j∈Region.ready .any l.toArray listed->j∈hb++al:=by
  intro i hi listed j hI hun hj;obtain⟨hjun,oj,hoj,_⟩:=mem_ready.1 hj;have hjs:j<l.toArray.size:=(Array.getElem?_eq_some_iff.1 hoj).1;have hcj:=hcov j (jZ.2 hjs);simp only[Bool.or_eq_true,List.contains_eq_mem,decide_eq_true_eq]at hcj;rcases hcj with(h1|h1)|h1
  ·have h2:=hI.2 j h1;rw[getD_both hjun]at h2;cases h2
  ·exact h1
  ·exfalso
   rcases jD.1 h1 with rfl|h2
   ·exact zDv hI.1 _ hs1 i hi hun hj
   ·exact zFe tl u hc1 hI.1.tail j h2 hj
 refine wp_region_any hm ?_
 suffices H2:wpAny P .any l.toArray Q (z.length+(hb.length+t.depth)) (Array.replicate l.toArray.size false) a {w with drawn:=w.drawn+1}by rw[hlen]at H2;exact H2
 refine zIl hsel hQ z _ a hz h λa' h'=>zCc (C:=C) (cal:=hb++al) _ _ _ _ ?_
 refine zDk hsel hQ (λlisted=>HeadBy .any l.toArray (u::tl) listed/\∀k∈z,listed.getD k false=true) hI1 hw1 hC hb _ a' ⟨inv1,λk hk=>zKh z _ k (by have:=hzlt k hk;simpa using this) (.inl hk)⟩ (λi hi=>by simp[hi]) hhb h' ?_;intro a2 _ h2;exact(zKc t t.depth _ a2 _ (qA _) hev).2 htree h2
theorem zMo{id:Nat}{a:Act}{w:World}{l:List Oper}(z hb al:List Nat)(u:Nat)(tl:List Nat)(t:OT)(hm:P.follows .mixedOrders=true)(hB:treeB .any l.toArray z hb al u tl t=true)(hQ:∀c a d v w,Q (.panic c) (a.put d v) w->Q (.panic c) a w)(h:wpQuiet P l.toArray (λ_=>True) (wpQuiet P l.toArray (λw'=>∃n:Ext w,w'=n.W) (λa'=>wpT P l Q (λw'=>∃n:Ext w,w'=n.W) (hb++al) t a' w.drew) (bB l hb)) (bB l z) a):(Code.region id l.toArray true).wp P Q a w:=
 zTk z hb al u tl t hm hB hQ ⟨⟨w.drew,(qC _ w).drew⟩,rfl⟩ h
theorem zAx{l:List Oper}{cal:List Nat}{s t:OT}{a:Act}{w:World}(h1:wpT P l Q C cal s a w)(h2:wpT P l Q C cal t a w):wpT P l Q C cal (.fork s t) a w:=⟨h1,h2⟩
theorem gV{l:List Oper}{cal:List Nat}{a:Act}{w:World}(h:Q .normal a w):wpT P l Q C cal .done a w:=h
theorem bP{l:List Oper}{cal:List Nat}{k:Nat}{t:OT}{a:Act}{w:World}(h:∀K:Act->World->Prop,(∀a' w',(k∈cal->C w')->wpT P l Q C cal t a' w'->K a' w')->wpList P l.toArray (λe a' w'=>match e with| .normal=>K a' w'|e=>Q e a' w') (bB l [k]) a w):wpT P l Q C cal (.next k t) a w:=
 h _ λ_ _ h1 h2=>⟨h1,h2⟩
end
section
variable {P:Program}{Q:Exit->Act->World->Prop}{C:World->Prop}
def treeU(md:Region.Mode)(ops:Array Oper)(z hb al us:List Nat)(t:OT):Bool:=
 Region.noSelect ops&&us.all (λu=>zEk md ops u (hb++al))&&
  (hb++al).all (λi=> !us.contains i)&&us.all (λi=>decide (i<ops.size))&&z.all (λi=>decide (i<ops.size))&&
  decide (z.length+(hb.length+t.depth)=ops.size)&&t.even&&(List.range ops.size).all (λj=>z.contains j||(hb++al).contains j||us.contains j)&&
  zBy md ops us z (Array.replicate ops.size false)&&hbBy md ops hb (fN (Array.replicate ops.size false) z)&&t.ok md ops (fN (fN (Array.replicate ops.size false) z) hb)
theorem zSh{id:Nat}{a:Act}{w:World}{l:List Oper}(z hb al us:List Nat)(t:OT)(hm:P.follows .mixedOrders=true)(hB:treeU .any l.toArray z hb al us t=true)(hQ:∀c a d v w,Q (.panic c) (a.put d v) w->Q (.panic c) a w)(hC:C {w with drawn:=w.drawn+1})(h:wpQuiet P l.toArray (λ_=>True) (wpQuiet P l.toArray C (λa'=>wpT P l Q C (hb++al) t a' {w with drawn:=w.drawn+1}) (bB l hb)) (bB l z) a):(Code.region id l.toArray true).wp P Q a w:=by
 simp only[treeU,qT,decide_eq_true_eq,uE]at hB;obtain⟨⟨⟨⟨⟨⟨⟨⟨⟨⟨hsel,hs1⟩,hd1⟩,hlt⟩,hzlt⟩,hlen⟩,hev⟩,hcov⟩,hz⟩,hhb⟩,htree⟩:=hB;have hdis:∀k∈us,k∉hb++al:=λk hk hc=>by have:=hd1 k hc;simp only[Bool.not_eq_true',List.contains_eq_mem,decide_eq_false_iff_not]at this;exact this hk
 have inv0:HeadBy .any l.toArray us (Array.replicate l.toArray.size false):=
  ⟨by simp,λj oj _ hl=>(by rw[getD_replicate_false]at hl;cases hl),λx hx=>getD_in (by have:=hlt x hx;simpa using this) (getD_replicate_false _ _)⟩
 have inv1:=HeadBy.setAll z _ inv0 hz;have hI1:∀listed j,(HeadBy .any l.toArray us listed/\∀k∈z,listed.getD k false=true)->j∈Region.ready .any l.toArray listed->j∈hb++al->(HeadBy .any l.toArray us (listed.setIfInBounds j true)/\∀k∈z,(listed.setIfInBounds j true).getD k false=true):=
  λlisted j h hj hc=>⟨h.1.set hj (λhx=>hdis j hx hc),λk hk=>getD_set_true (h.2 k hk)⟩
 have hw1:∀i,i∈hb++al->∀listed j,(HeadBy .any l.toArray us listed/\∀k∈z,listed.getD k false=true)->listed.getD i true=false->j∈Region.ready .any l.toArray listed->j∈hb++al:=by
  intro i hi listed j hI hun hj;obtain⟨hjun,oj,hoj,_⟩:=mem_ready.1 hj;have hjs:j<l.toArray.size:=(Array.getElem?_eq_some_iff.1 hoj).1;have hcj:=hcov j (jZ.2 hjs);simp only[Bool.or_eq_true,List.contains_eq_mem,decide_eq_true_eq]at hcj;rcases hcj with(h1|h1)|h1
  ·have h2:=hI.2 j h1;rw[getD_both hjun]at h2;cases h2
  ·exact h1
  ·exact absurd hj (zDv (tl:=[]) ⟨hI.1.size,hI.1.closed,λx hx=>by rw[jJ]at hx;subst hx;exact hI.1.tail _ h1⟩ _ (hs1 j h1) i hi hun)
 refine wp_region_any hm ?_
 suffices H2:wpAny P .any l.toArray Q (z.length+(hb.length+t.depth)) (Array.replicate l.toArray.size false) a {w with drawn:=w.drawn+1}by rw[hlen]at H2;exact H2
 refine zIl hsel hQ z _ a hz h λa' h'=>zCc (C:=C) (cal:=hb++al) _ _ _ _ ?_
 refine zDk hsel hQ (λlisted=>HeadBy .any l.toArray us listed/\∀k∈z,listed.getD k false=true) hI1 hw1 hC hb _ a' ⟨inv1,λk hk=>zKh z _ k (by have:=hzlt k hk;simpa using this) (.inl hk)⟩ (λi hi=>by simp[hi]) hhb h' ?_;intro a2 _ h2;exact(zKc t t.depth _ a2 _ (qA _) hev).2 htree h2
theorem zLs{id:Nat}{a:Act}{w:World}{l:List Oper}(z hb al us:List Nat)(t:OT)(hm:P.follows .mixedOrders=true)(hB:treeU .any l.toArray z hb al us t=true)(hQ:∀c a d v w,Q (.panic c) (a.put d v) w->Q (.panic c) a w)(h:wpQuiet P l.toArray (λ_=>True) (wpQuiet P l.toArray (λw'=>∃n:Ext w,w'=n.W) (λa'=>wpT P l Q (λw'=>∃n:Ext w,w'=n.W) (hb++al) t a' w.drew) (bB l hb)) (bB l z) a):(Code.region id l.toArray true).wp P Q a w:=
 zSh z hb al us t hm hB hQ ⟨⟨w.drew,(qC _ w).drew⟩,rfl⟩ h
end
def cntV(x:Int×Int):Value:= .int .i64 x.1
def lftV(x:Int×Int):Value:= .int .i64 x.2
def Rk.cells(r:Rk)(vc vl:Value):List Value:=[.int .i64 r.free,.int .i64 r.used,vc,vl]
structure RkAt(w:World)(base g o:Nat)(cs:Array Value)(r:Rk)(vc vl:Value):Prop where
 blk:Blk w g 99 cs
 has:Has cs o (r.cells vc vl)
 oc:w.ownsRow base 3 1 vc r.rows.length (r.rows.map cntV)
 ol:w.ownsRow base 3 1 vl r.rows.length (r.rows.map lftV)
 ne:∀k,vc.ownBlock=some k->vl.ownBlock=some k->False
def RkD(g:Nat)(vc vl:Value)(k:Nat):Prop:=k=g\/vc.ownBlock=some k\/vl.ownBlock=some k
section
variable {w w':World}{base g o:Nat}{cs:Array Value}{r:Rk}{vc vl:Value}
theorem RkAt.c0(h:RkAt w base g o cs r vc vl):w.cell? ⟨g,o,none⟩=some (.int .i64 r.free):=h.blk.at_ h.has 0 rfl
theorem RkAt.c1(h:RkAt w base g o cs r vc vl):w.cell? ⟨g,o+1,none⟩=some (.int .i64 r.used):=h.blk.at_ h.has 1 rfl
theorem RkAt.c2(h:RkAt w base g o cs r vc vl):w.cell? ⟨g,o+2,none⟩=some vc:=h.blk.at_ h.has 2 rfl
theorem RkAt.c3(h:RkAt w base g o cs r vc vl):w.cell? ⟨g,o+3,none⟩=some vl:=h.blk.at_ h.has 3 rfl
theorem RkAt.fr(h:RkAt w base g o cs r vc vl)(i:Nat):w.frozen? ⟨g,i,none⟩=false:=h.blk.frozen i
theorem RkAt.nc(h:RkAt w base g o cs r vc vl):vc.ownBlock≠some g:=bC h.oc h.blk (by decide)
theorem RkAt.nl(h:RkAt w base g o cs r vc vl):vl.ownBlock≠some g:=bC h.ol h.blk (by decide)
theorem RkAt.only{D:Nat->Prop}(h:RkAt w base g o cs r vc vl)(ho:Only D w w')(h1:∀k,RkD g vc vl k->¬ D k):RkAt w' base g o cs r vc vl:=
 ⟨h.blk.only ho (h1 g (.inl rfl)),h.has,bL h.oc ho (λk hk=>h1 k (.inr (.inl hk))),bL h.ol ho (λk hk=>h1 k (.inr (.inr hk))),h.ne⟩
theorem RkAt.lt(h:RkAt w base g o cs r vc vl):∀k,RkD g vc vl k->k<w.heap.size:=λk hk=>by
 rcases hk with rfl|hk|hk
 ·exact h.blk.lt
 ·exact(h.oc.lt k hk).2
 ·exact(h.ol.lt k hk).2
theorem RkAt.calm(h:RkAt w base g o cs r vc vl)(hb:uR w w'):RkAt w' base g o cs r vc vl:=
 h.only (D:=λk=>w.heap.size<=k) (Only.of_below hb λ_ _ h=>h) (λk hk=>by have:=h.lt k hk;omega)
theorem RkAt.free_(h:RkAt w base g o cs r vc vl)(x:Int):RkAt (w.setCell ⟨g,o,none⟩ (.int .i64 x)) base g o (putAt cs o (({r with free:=x}:Rk).cells vc vl)) {r with free:=x} vc vl:=
 ⟨h.blk.put_ (j:=0) h.has (by simp[Rk.cells]) _,Has.putAt _ _ _ (h.has.le (by simp[Rk.cells])),jS h.oc (fV (World.grownBy.refl w (some g)) (.inl rfl) _) (.inr h.nc),jS h.ol (fV (World.grownBy.refl w (some g)) (.inl rfl) _) (.inr h.nl),h.ne⟩
theorem RkAt.used_(h:RkAt w base g o cs r vc vl)(x:Int):RkAt (w.setCell ⟨g,o+1,none⟩ (.int .i64 x)) base g o (putAt cs o (({r with used:=x}:Rk).cells vc vl)) {r with used:=x} vc vl:=
 ⟨h.blk.put_ (j:=1) h.has (by simp[Rk.cells]) _,Has.putAt _ _ _ (h.has.le (by simp[Rk.cells])),jS h.oc (fV (World.grownBy.refl w (some g)) (.inl rfl) _) (.inr h.nc),jS h.ol (fV (World.grownBy.refl w (some g)) (.inl rfl) _) (.inr h.nl),h.ne⟩
theorem RkAt.cnt(h:RkAt w base g o cs r vc vl):∃A c,vc= .slice A r.rows.length c/\r.rows.length<=c/\∀k x,r.rows[k]? =some x->∃q,A=some ⟨q,0,none⟩/\w.cell? ⟨q,k,none⟩=some (.int .i64 x.1)/\w.frozen? ⟨q,k,none⟩=false:=by obtain⟨A,c,rfl,hc⟩:=bE h.oc;refine⟨A,c,rfl,hc,λk x hx=> ?_⟩;have hk:=(qK.1 hx).1;obtain⟨q,cap,hv,_,_⟩:=h.oc.form (by omega);injection hv with hA;subst hA;exact⟨q,rfl,zAr h.oc k (by rw[qV,hx];rfl),(zDm h.oc k (by omega)).2⟩
theorem RkAt.lft(h:RkAt w base g o cs r vc vl):∃A c,vl= .slice A r.rows.length c/\r.rows.length<=c/\∀k x,r.rows[k]? =some x->∃q,A=some ⟨q,0,none⟩/\w.cell? ⟨q,k,none⟩=some (.int .i64 x.2)/\w.frozen? ⟨q,k,none⟩=false:=by obtain⟨A,c,rfl,hc⟩:=bE h.ol;refine⟨A,c,rfl,hc,λk x hx=> ?_⟩;have hk:=(qK.1 hx).1;obtain⟨q,cap,hv,_,_⟩:=h.ol.form (by omega);injection hv with hA;subst hA;exact⟨q,rfl,zAr h.ol k (by rw[qV,hx];rfl),(zDm h.ol k (by omega)).2⟩
end
structure Rk.ok(r:Rk)(K:Nat):Prop where
 free0:0<=r.free
 used0:0<=r.used
 all:r.free+cJ r.rows+r.used<=1048576
 rows:∀x∈r.rows,0<=x.1/\x.1<=1048576/\0<=x.2/\x.2<=20
 len:r.rows.length<=K
theorem zEj(a b:List (Int×Int)):cJ (a++b)=cJ a+cJ b:=by
 induction a with
 |nil=>simp[cJ]
 |cons x l ih=>obtain⟨c,t⟩:=x;rw[List.cons_append,cJ,cJ,ih];omega
theorem yDh(l:List (Int×Int))(k:Nat)(x:Int×Int)(h:l[k]? =some x):cJ (l.take (k+1))=cJ (l.take k)+(if 0<x.2 then x.1 else 0):=by rw[dB l k x h,zEj];obtain⟨c,t⟩:=x;simp[cJ]
theorem zHj{l:List (Int×Int)}(h:∀x∈l,0<=x.1/\x.1<=1048576/\0<=x.2/\x.2<=20):0<=cJ l/\cJ l<=1048576*l.length:=by
 induction l with
 |nil=>simp[cJ]
 |cons x l ih=>
  obtain⟨c,t⟩:=x;have h1:=h (c,t) (by simp);have h2:=ih (λy hy=>h y (by simp[hy]));dsimp only at h1;rw[cJ,jG]
  split<;>omega
theorem zIc{l:List (Int×Int)}(h:∀x∈l,0<=x.1/\x.1<=1048576/\0<=x.2/\x.2<=20)(k:Nat):0<=cJ (l.take k)/\cJ (l.take k)<=cJ l:=by
 have h1:=zHj (l:=l.take k) λx hx=>h x (List.mem_of_mem_take hx)
 have h2:=zHj (l:=l.drop k) λx hx=>h x (List.mem_of_mem_drop hx)
 have h3:cJ l=cJ (l.take k)+cJ (l.drop k):=by rw[<-zEj,jW]
 omega
theorem zWs(a b:List (Int×Int)):fE (a++b)=fE a+fE b:=by
 induction a with
 |nil=>simp[fE]
 |cons x l ih=>obtain⟨c,t⟩:=x;rw[List.cons_append,fE,fE,ih];omega
theorem yBb(l:List (Int×Int))(k:Nat)(x:Int×Int)(h:l[k]? =some x):fE (l.take (k+1))=fE (l.take k)+(if 0<x.2 then 1 else 0):=by rw[dB l k x h,zWs];obtain⟨c,t⟩:=x;simp[fE]
theorem yFr(l:List (Int×Int)):fE l<=l.length:=by
 induction l with
 |nil=>simp[fE]
 |cons x l ih=>obtain⟨c,t⟩:=x;rw[fE,jG];split<;>omega
theorem zGe(base g o:Nat)(cs:Array Value)(r:Rk)(vc vl:Value)(w:World)(K:Nat)(h:RkAt w base g o cs r vc vl)(hr:r.ok K)(hK:K<=1000000):Calls prog 28 #[.pointer (some ⟨g,o,none⟩)] w λe w'=>e= .returned (.int .i64 (cJ r.rows))/\w=w':=by
 obtain⟨A,c,rfl,hcA,hcnt⟩:=h.cnt;obtain⟨A',c',rfl,hcA',hlft⟩:=h.lft;have c2:=h.c2;have c3:=h.c3;obtain⟨n,hn⟩:=kB r.rows.length;rw[<-hn]at c2 c3 hcA hcA';have hlen:=hr.len;rw[<-hn]at hlen;obtain⟨HN,HR,HC,HL⟩:=uK hn.symm hr hcnt hlft;have hn9:n<=9223372036854775807:=by omega
 clear h hn hr hcnt hlft;go_enter func28,ntmps28;go_wp2_with fail
 go_loop [3,10] (λx i=>∃k:Nat,k<=n/\i= .int .i64 k/\x= .int .i64 (cJ (r.rows.take k))) (λ_ i=>n-(intOf i).toNat)
 case atStart=>exact⟨0,qL _,rfl,rfl⟩
 case round=>
  obtain⟨k,hk,rfl,rfl⟩:=hrel;by_cases hlt:k<n
  ·obtain⟨x,hx⟩:∃x,r.rows[k]? =some x:=⟨_,qI (by rw[HN.s];exact hlt)⟩;obtain⟨q,rfl,d1,_⟩:=HC.s k x hx;obtain⟨q',rfl,d2,_⟩:=HL.s k x hx;have HT:=uT (yDh r.rows k x hx);have hb:=zIc HR.s.rows k;have hall:=HR.s.all;have hf0:=HR.s.free0;have hu0:=HR.s.used0;have hxb:=HR.s.rows x (qB hx);obtain⟨hx1,hx2,hx3,hx4⟩:=hxb;have hb2:=zIc HR.s.rows (k+1);have hkn:(k:Int)<(n:Int):=by omega
   obtain⟨hb0,hb1⟩:=hb;have hbb:cJ (r.rows.take k)<=1048576:=by omega
   generalize cJ (r.rows.take k)=q0 at*;clear hx hall hb1 hb2;by_cases hp:0<x.2
   ·have HT2:=uT (show cJ (r.rows.take (k+1))=q0+x.1 by rw[HT.s,if_pos hp]);go_wp2_with fail
    go_round
    case rel=>exact⟨k+1,by omega,by go_num,by rw[HT2.s]⟩
    case measure=>simp[intOf];omega
   ·have HT2:=uT (show cJ (r.rows.take (k+1))=q0 by rw[HT.s,if_neg hp];omega);have hp':x.2<=0:=by omega
    go_wp2_with fail
    go_round
    case rel=>exact⟨k+1,by omega,by go_num,by rw[HT2.s]⟩
    case measure=>simp[intOf];omega
  ·obtain rfl:k=n:=by omega
   go_wp2_with fail;go_ret;exact⟨fG (by rw[qS (by rw[HN.s];exact qA _)]),rfl⟩
theorem zHz(base g o:Nat)(cs:Array Value)(r:Rk)(vc vl:Value)(w:World)(K:Nat)(h:RkAt w base g o cs r vc vl)(hr:r.ok K)(hK:K<=1000000):Calls prog 101 #[.pointer (some ⟨g,o,none⟩)] w λe w'=>e= .returned (.int .i64 (fE r.rows))/\w=w':=by
 obtain⟨A',c',rfl,hcA',hlft⟩:=h.lft;have c3:=h.c3;obtain⟨n,hn⟩:=kB r.rows.length;rw[<-hn]at c3 hcA';have hlen:=hr.len;rw[<-hn]at hlen;obtain⟨HN,HL⟩:=uI hn.symm hlft;have hn9:n<=9223372036854775807:=by omega
 clear h hn hr hlft;go_enter func101,ntmps101;go_wp2_with fail
 go_loop [3,11] (λx i=>∃k:Nat,k<=n/\i= .int .i64 k/\x= .int .i64 (fE (r.rows.take k))) (λ_ i=>n-(intOf i).toNat)
 case atStart=>exact⟨0,qL _,rfl,rfl⟩
 case round=>
  obtain⟨k,hk,rfl,rfl⟩:=hrel;by_cases hlt:k<n
  ·obtain⟨x,hx⟩:∃x,r.rows[k]? =some x:=⟨_,qI (by rw[HN.s];exact hlt)⟩;obtain⟨q',rfl,d2,_⟩:=HL.s k x hx;have HT:=uT (yBb r.rows k x hx);have hb:=yFr (r.rows.take k);have hb2:fE (r.rows.take k)<=1000000:=by have:(r.rows.take k).length<=k:=List.length_take_le _ _;omega
   have hkn:(k:Int)<(n:Int):=by omega
   generalize fE (r.rows.take k)=q0 at*;clear hx hb;by_cases hp:0<x.2
   ·have HT2:=uT (show fE (r.rows.take (k+1))=q0+1 by rw[HT.s,if_pos hp]);go_wp2_with fail
    go_round
    case rel=>exact⟨k+1,by omega,by go_num,by rw[HT2.s];go_num⟩
    case measure=>simp[intOf];omega
   ·have HT2:=uT (show fE (r.rows.take (k+1))=q0 by rw[HT.s,if_neg hp];omega);have hp':x.2<=0:=by omega
    go_wp2_with fail
    go_round
    case rel=>exact⟨k+1,by omega,by go_num,by rw[HT2.s]⟩
    case measure=>simp[intOf];omega
  ·obtain rfl:k=n:=by omega
   go_wp2_with fail;go_ret;exact⟨fG (by rw[qS (by rw[HN.s];exact qA _)]),rfl⟩
end Go.Proofs.YtbolcebmbpepdaaGreatDoor
