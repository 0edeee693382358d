/- Contracts. Conditions: those each states. -/
import Derived.OpenShut
import Derived.Test.YtbolcebmbpepdaaGreatDoorM13
import Derived.Test.YtbolcebmbpepdaaGreatDoorM04
namespace Go.Proofs.YtbolcebmbpepdaaGreatDoor
set_option maxRecDepth 100000
set_option maxHeartbeats 8000000
set_option linter.all false
open Go.RowKit Tryz
section
open Go.RowKit Go.ChangeShapes Go.WideShapes Go.Deep
structure Cfg where
 br:Int
 la:IRw
 tk:Int
 mi:IRw
 cap:Int
def Cfg.val(c:Cfg):Value:= .agg #[.int .i64 c.br,.slice c.la.A c.la.n c.la.c,.int .i64 c.tk,.slice c.mi.A c.mi.n c.mi.c,.int .i64 c.cap]
def Cfg.ok(c:Cfg)(w:World)(B:Nat):Prop:=c.la.ok w B/\c.mi.ok w B/\∀z∈c.la.zs,(Lit.int .i64 z).wf=true
theorem Cfg.ok.below{c:Cfg}{w w':World}{B:Nat}(h:c.ok w B)(hb:Below B w w'):c.ok w' B:=⟨h.1.below hb,h.2.1.below hb,h.2.2⟩
theorem Cfg.ok.more{c:Cfg}{w:World}{B B':Nat}(h:c.ok w B)(hB:B<=B'):c.ok w B':=⟨h.1.more hB,h.2.1.more hB,h.2.2⟩
theorem zSl{H:Type}{enc:TypeId×Value->H}{w:World}{base:Nat}{spare:Nat->Bool}{held:Bool}{fuel:Nat}{cs:List Value}{x:DataW H×List MemPlace}(h:DataW.trod enc prog w base spare held fuel 22 cs=some x):∃r:IRw,cs=[r.val]/\r.ok w w.heap.size/\∀z∈r.zs,(Lit.int .i64 z).wf=true:=by
 rcases open_slice underlying22 h with⟨rfl,_⟩|⟨a,len,cap,m,n,D,Pl,rfl,_⟩
 ·exact⟨⟨none,0,0,[]⟩,rfl,⟨rfl,qA _,qL _,Reads.none_⟩,λz hz=>by cases hz⟩
 ·obtain⟨h1,h2,zs,h3,h4,h5⟩:=yEk underlying22 underlying3 (by kernel_rfl) h;exact⟨⟨some a,len,cap,zs⟩,rfl,⟨h3,h1,h2,h4⟩,h5⟩
theorem yBm{H:Type}{enc:TypeId×Value->H}{w:World}{r:Reach}{b0 base:Nat}{spare:Nat->Bool}{held:Bool}{v:Value}{d:DataW H}{ps:List MemPlace}(hval:Value.okWide prog w r b0 24 v)(h:DataW.Trod enc prog w base spare held 24 v d ps):∃c:Cfg,v=c.val/\c.ok w w.heap.size:=by
 obtain⟨cs,rfl,hsz⟩:=okWide_struct underlying24 hval;obtain⟨n,h⟩:=h;obtain⟨hl,ys,_,_,m,hf⟩:=zNv underlying24 (by kernel_rfl) (by kernel_rfl) h;obtain⟨v0,y0,c0,_,t0⟩:=hf 0 _ rfl;obtain⟨v1,y1,c1,_,t1⟩:=hf 1 _ rfl;obtain⟨v2,y2,c2,_,t2⟩:=hf 2 _ rfl;obtain⟨v3,y3,c3,_,t3⟩:=hf 3 _ rfl;obtain⟨v4,y4,c4,_,t4⟩:=hf 4 _ rfl;obtain⟨z0,e0,_,_⟩:=DataW.trod_int underlying3 t0;obtain⟨r1,e1,g1,w1⟩:=zSl t1;obtain⟨z2,e2,_,_⟩:=DataW.trod_int underlying3 t2;obtain⟨r3,e3,g3,_⟩:=zSl t3;obtain⟨z4,e4,_,_⟩:=DataW.trod_int underlying3 t4;injection e0 with e0;injection e1 with e1;injection e2 with e2;injection e3 with e3;injection e4 with e4;subst e0 e1 e2 e3 e4;refine⟨⟨z0,r1,z2,r3,z4⟩,?_,g1,g3,w1⟩;obtain⟨l⟩:=cs;have hl':l.length=5:=hl
 match l,hl' with
 |[a,b,c,d,e],_=>simp[Value.cells]at c0 c1 c2 c3 c4;subst c0 c1 c2 c3 c4;rfl
def gY(z:Int):Bool:=decide (z<0)||decide (1048576<z)
def zAg(b s:Int):Bool:=decide (s<0)||decide (2^b.toNat<=s)
def inB(n lo hi:Int):Bool:=decide (lo<=n)&&decide (n<=hi)
def bG(c:Cfg):Bool:=inB c.br 1 8&&decide (c.la.zs.length<=4)&&inB c.tk 1 8&&inB c.mi.zs.length 1 3&&inB c.cap 0 1048576&& !(c.la.zs.any (zAg c.br))&& !(c.mi.zs.any gY)
theorem zCw(n lo hi:Int)(w:World):Calls prog 56 #[.int .i64 n,.int .i64 lo,.int .i64 hi] w λe w'=>e= .returned (.bool (inB n lo hi))/\w=w':=by
 by_cases h0:lo<=n
 ·have HF:=uT (show inB n lo hi=decide (n<=hi)by simp[inB,h0]);go_enter func56,ntmps56;go_wp2_with fail;go_ret;exact⟨bQ HF.s.symm,rfl⟩
 ·have HF:=uT (show inB n lo hi=false by simp[inB,h0]);go_enter func56,ntmps56;go_wp2_with fail;go_ret;exact⟨bQ HF.s.symm,rfl⟩
theorem yBq(z:Int)(w:World):Calls prog 59 #[.int .i64 z] w λx w'=>x= .returned (.bool (gY z))/\w=w':=by obtain⟨H,HF⟩:=uI (λW=>zCw z 0 1048576 W) (show(!inB z 0 1048576)=gY z by unfold inB gY;rw[Bool.eq_iff_iff];simp<;>omega);generalize inB z 0 1048576=x at H HF;go_enter func59,ntmps59;go_wp2_with fail;refine(H.s _).mono ?_;rintro _ _ ⟨rfl,rfl⟩;go_wp2_with fail;go_ret;exact⟨bQ HF.s,rfl⟩
end
theorem yEa(b:Nat)(hb:b<=8)(z:Int)(h:mayB z=false):zAg b z=true:=by
 have hp:(2:Nat)^b<=2^8:=Nat.pow_le_pow_right (by omega) hb;have hp':(2:Int)^b<=256:=by
  have:((2^b:Nat):Int)<=256:=by omega
  simpa using this
 unfold mayB at h;unfold zAg;simp only[qR];simp at h⊢;omega
theorem yAv(z:Int)(b:Nat)(hb:b<=8)(hz:z<=9223372036854775807)(p:Nat)(w:World)(hp:w.cell? ⟨p,0,none⟩=some (.int .i64 b)):Calls prog 58 #[.int .i64 z,.pointer (some ⟨p,0,none⟩)] w λx w'=>x= .returned (.bool (zAg b z))/\w=w':=by
 have H:=uT (yEq z hz w);cases hm:mayB z with
 |false=>have HF:=uT (yEa b hb z hm);rw[hm]at H;clear hm;go_enter func58,ntmps58;go_wp2_with fail;refine H.s.mono ?_;rintro _ _ ⟨rfl,rfl⟩;go_wp2_with fail;go_ret;exact⟨bQ HF.s.symm,rfl⟩
 |true=>
  rw[hm]at H;have h2:0<=z/\z<=255:=by simpa[mayB]using hm
  obtain⟨s,rfl⟩:=qP h2.1;have hs:s<=255:=by omega
  have HF:=uT (show zAg b s=decide ((0:Int)<(s:Int)/2^b)by
   rw[shr_pos];unfold zAg;simp only[qR];have e:((2:Int)^b<=(s:Int))↔2^b<=s:=by
    have:((2^b:Nat):Int)=(2:Int)^b:=by simp
    rw[<-this];omega
   rw[Bool.eq_iff_iff];simp[e];omega)
  clear hm h2 hz;go_enter func58,ntmps58;go_wp2_with fail;refine H.s.mono ?_;rintro _ _ ⟨rfl,rfl⟩;go_wp2_with fail;go_ret;exact⟨bQ HF.s.symm,rfl⟩
theorem zCh(c:Cfg)(B:Nat)(w:World)(hc:c.ok w B)(hB:B<=w.heap.size):Calls prog 38 #[c.val] w λe w'=>e= .returned (.bool (bG c))/\uR w w':=by
 obtain⟨br,⟨lA,ln,lc,ls⟩,tk,⟨mA,mn,mc,ms⟩,cap⟩:=c;obtain⟨⟨l1,l2,l3,l4⟩,⟨m1,m2,m3,m4⟩,lw⟩:=hc;dsimp only at l1 l2 l3 l4 m1 m2 m3 m4 lw;unfold Cfg.val;dsimp only;obtain⟨wx,hwx⟩:=kB (w.alloc (.cells #[.int .i64 br,.slice lA ln lc,.int .i64 tk,.slice mA mn mc,.int .i64 cap] 24));have hbx:=uH hwx;have hnew:=Blk.new w 24 #[.int .i64 br,.slice lA ln lc,.int .i64 tk,.slice mA mn mc,.int .i64 cap];rw[<-hwx]at hnew;have c0:wx.cell? ⟨w.heap.size,0,none⟩=some (.int .i64 br):=hnew.cell 0;have c1:wx.cell? ⟨w.heap.size,1,none⟩=some (.slice lA ln lc):=hnew.cell 1;have c2:wx.cell? ⟨w.heap.size,2,none⟩=some (.int .i64 tk):=hnew.cell 2;have c3:wx.cell? ⟨w.heap.size,3,none⟩=some (.slice mA mn mc):=hnew.cell 3;have c4:wx.cell? ⟨w.heap.size,4,none⟩=some (.int .i64 cap):=hnew.cell 4;have HP:=uT (show bG ⟨br,⟨lA,ln,lc,ls⟩,tk,⟨mA,mn,mc,ms⟩,cap⟩=(inB br 1 8&&decide (ln<=4)&&inB tk 1 8&&inB mn 1 3&&inB cap 0 1048576&& !(ls.any (zAg br))&& !(ms.any gY))by unfold bG;dsimp only;rw[l1,m1])
 obtain⟨H1,H3,H4,H5⟩:=uK (zCw br 1 8 wx) (zCw tk 1 8 wx) (zCw mn 1 3 wx) (zCw cap 0 1048576 wx);have H6:=uT (show inB br 1 8=true->Calls prog 57 #[.slice lA ln lc,.func (.func 58) #[] #[.pointer (some ⟨w.heap.size,0,none⟩)]] wx (λe w'=>e= .returned (.bool (ls.any (zAg br)))/\wx=w')from λhb=>by
  have hb2:1<=br/\br<=8:=by simpa[inB]using hb
  obtain⟨b,rfl⟩:=qP (show 0<=br by omega);exact zGq 58 #[.pointer (some ⟨w.heap.size,0,none⟩)] (zAg b) lA ln lc ls B (λW=>wx=W) wx l1 (by omega) (λW hW=>hW▸(l4.below (hbx.mono hB))) rfl
   (zAi func58 (by kernel_rfl) rfl)
   (λz W hz hW=>by subst hW;exact yAv z b (by omega) (zWh (lw z hz)).2 _ wx c0))
 have H7:=uT (zGq 59 #[] gY mA mn mc ms B (λW=>wx=W) wx m1 (by omega) (λW hW=>hW▸(m4.below (hbx.mono hB))) rfl
  (zAi func59 (by kernel_rfl) rfl) λz W _ hW=>(yBq z W).mono λx w' ⟨hx,hw'⟩=>⟨hx,hW.trans hw'⟩)
 have hln:ln<=9223372036854775807:=by unfold maxLen at l3;omega
 have hmn:mn<=9223372036854775807:=by unfold maxLen at m3;omega
 obtain⟨HBX,HWX⟩:=uI hbx hwx;clear hbx hwx hnew l1 l2 l3 l4 m1 m2 m3 m4 lw;cases h1:inB br 1 8 with
 |false=>rw[h1]at H1;have HG:=uT (show bG ⟨br,⟨lA,ln,lc,ls⟩,tk,⟨mA,mn,mc,ms⟩,cap⟩=false by rw[HP.s,h1];simp);clear h1 HP;go_enter func38,ntmps38;go_wp2_with fail;rw[<-HWX.s];refine H1.s.mono ?_;rintro _ _ ⟨rfl,rfl⟩;go_wp2_with fail;go_ret;exact⟨bQ HG.s.symm,HBX.s⟩
 |true=>
  rw[h1]at H1;by_cases h2:ln<=4
  rotate_left
  ·have HG:=uT (show bG ⟨br,⟨lA,ln,lc,ls⟩,tk,⟨mA,mn,mc,ms⟩,cap⟩=false by rw[HP.s];simp[h2]);have h2':4<ln:=by omega
   clear h1 h2 HP;go_enter func38,ntmps38;go_wp2_with fail;rw[<-HWX.s];refine H1.s.mono ?_;rintro _ _ ⟨rfl,rfl⟩;go_wp2_with fail;go_ret;exact⟨bQ HG.s.symm,HBX.s⟩
  cases h3:inB tk 1 8 with
  |false=>rw[h3]at H3;have HG:=uT (show bG ⟨br,⟨lA,ln,lc,ls⟩,tk,⟨mA,mn,mc,ms⟩,cap⟩=false by rw[HP.s,h3];simp);clear h1 h3 HP;go_enter func38,ntmps38;go_wp2_with fail;rw[<-HWX.s];refine H1.s.mono ?_;rintro _ _ ⟨rfl,rfl⟩;go_wp2_with fail;refine H3.s.mono ?_;rintro _ _ ⟨rfl,rfl⟩;go_wp2_with fail;go_ret;exact⟨bQ HG.s.symm,HBX.s⟩
  |true=>
   rw[h3]at H3;cases h4:inB mn 1 3 with
   |false=>rw[h4]at H4;have HG:=uT (show bG ⟨br,⟨lA,ln,lc,ls⟩,tk,⟨mA,mn,mc,ms⟩,cap⟩=false by rw[HP.s,h4];simp);clear h1 h3 h4 HP;go_enter func38,ntmps38;go_wp2_with fail;rw[<-HWX.s];refine H1.s.mono ?_;rintro _ _ ⟨rfl,rfl⟩;go_wp2_with fail;refine H3.s.mono ?_;rintro _ _ ⟨rfl,rfl⟩;go_wp2_with fail;refine H4.s.mono ?_;rintro _ _ ⟨rfl,rfl⟩;go_wp2_with fail;go_ret;exact⟨bQ HG.s.symm,HBX.s⟩
   |true=>
    rw[h4]at H4;cases h5:inB cap 0 1048576 with
    |false=>rw[h5]at H5;have HG:=uT (show bG ⟨br,⟨lA,ln,lc,ls⟩,tk,⟨mA,mn,mc,ms⟩,cap⟩=false by rw[HP.s,h5];simp);clear h1 h3 h4 h5 HP;go_enter func38,ntmps38;go_wp2_with fail;rw[<-HWX.s];refine H1.s.mono ?_;rintro _ _ ⟨rfl,rfl⟩;go_wp2_with fail;refine H3.s.mono ?_;rintro _ _ ⟨rfl,rfl⟩;go_wp2_with fail;refine H4.s.mono ?_;rintro _ _ ⟨rfl,rfl⟩;go_wp2_with fail;refine H5.s.mono ?_;rintro _ _ ⟨rfl,rfl⟩;go_wp2_with fail;go_ret;exact⟨bQ HG.s.symm,HBX.s⟩
    |true=>
     rw[h5]at H5;have H6':=uT (H6.s h1);cases h6:ls.any (zAg br)with
     |true=>rw[h6]at H6';have HG:=uT (show bG ⟨br,⟨lA,ln,lc,ls⟩,tk,⟨mA,mn,mc,ms⟩,cap⟩=false by rw[HP.s,h6];simp);clear h1 h3 h4 h5 h6 HP;go_enter func38,ntmps38;go_wp2_with fail;rw[<-HWX.s];refine H1.s.mono ?_;rintro _ _ ⟨rfl,rfl⟩;go_wp2_with fail;refine H3.s.mono ?_;rintro _ _ ⟨rfl,rfl⟩;go_wp2_with fail;refine H4.s.mono ?_;rintro _ _ ⟨rfl,rfl⟩;go_wp2_with fail;refine H5.s.mono ?_;rintro _ _ ⟨rfl,rfl⟩;go_wp2_with fail;refine H6'.s.mono ?_;rintro _ _ ⟨rfl,rfl⟩;go_wp2_with fail;go_ret;exact⟨bQ HG.s.symm,HBX.s⟩
     |false=>rw[h6]at H6';have HG:=uT (show bG ⟨br,⟨lA,ln,lc,ls⟩,tk,⟨mA,mn,mc,ms⟩,cap⟩= !(ms.any gY)by rw[HP.s,h1,h3,h4,h5,h6];simp[h2]);generalize ms.any gY=x at H7 HG;clear h1 h3 h4 h5 h6 HP;go_enter func38,ntmps38;go_wp2_with fail;rw[<-HWX.s];refine H1.s.mono ?_;rintro _ _ ⟨rfl,rfl⟩;go_wp2_with fail;refine H3.s.mono ?_;rintro _ _ ⟨rfl,rfl⟩;go_wp2_with fail;refine H4.s.mono ?_;rintro _ _ ⟨rfl,rfl⟩;go_wp2_with fail;refine H5.s.mono ?_;rintro _ _ ⟨rfl,rfl⟩;go_wp2_with fail;refine H6'.s.mono ?_;rintro _ _ ⟨rfl,rfl⟩;go_wp2_with fail;refine H7.s.mono ?_;rintro _ _ ⟨rfl,rfl⟩;go_wp2_with fail;go_ret;exact⟨bQ HG.s.symm,HBX.s⟩
theorem zBr(c:Cfg)(B:Nat)(w:World)(hc:c.ok w B)(hB:B<=w.heap.size):Calls prog 23 #[c.val] w λe w'=>e= .returned (.bool (bG c))/\uR w w':=by
 obtain⟨br,⟨lA,ln,lc,ls⟩,tk,⟨mA,mn,mc,ms⟩,cap⟩:=c;obtain⟨⟨l1,l2,l3,l4⟩,⟨m1,m2,m3,m4⟩,lw⟩:=hc;dsimp only at l1 l2 l3 l4 m1 m2 m3 m4 lw;unfold Cfg.val;dsimp only;obtain⟨wx,hwx⟩:=kB (w.alloc (.cells #[.int .i64 br,.slice lA ln lc,.int .i64 tk,.slice mA mn mc,.int .i64 cap] 24));have hbx:=uH hwx;have hnew:=Blk.new w 24 #[.int .i64 br,.slice lA ln lc,.int .i64 tk,.slice mA mn mc,.int .i64 cap];rw[<-hwx]at hnew;have c0:wx.cell? ⟨w.heap.size,0,none⟩=some (.int .i64 br):=hnew.cell 0;have c1:wx.cell? ⟨w.heap.size,1,none⟩=some (.slice lA ln lc):=hnew.cell 1;have c2:wx.cell? ⟨w.heap.size,2,none⟩=some (.int .i64 tk):=hnew.cell 2;have c3:wx.cell? ⟨w.heap.size,3,none⟩=some (.slice mA mn mc):=hnew.cell 3;have c4:wx.cell? ⟨w.heap.size,4,none⟩=some (.int .i64 cap):=hnew.cell 4;have HP:=uT (show bG ⟨br,⟨lA,ln,lc,ls⟩,tk,⟨mA,mn,mc,ms⟩,cap⟩=(inB br 1 8&&decide (ln<=4)&&inB tk 1 8&&inB mn 1 3&&inB cap 0 1048576&& !(ls.any (zAg br))&& !(ms.any gY))by unfold bG;dsimp only;rw[l1,m1])
 have hln:ln<=9223372036854775807:=by unfold maxLen at l3;omega
 have hmn:mn<=9223372036854775807:=by unfold maxLen at m3;omega
 obtain⟨HBX,HWX,HLR,HMR,HLL,HML⟩:=uM hbx hwx (l4.below (hbx.mono hB)) (m4.below (hbx.mono hB)) l1 m1;clear hbx hwx hnew l1 l2 l3 l4 m1 m2 m3 m4 lw;by_cases h0:br<1
 ·have HG:=uT (show bG ⟨br,⟨lA,ln,lc,ls⟩,tk,⟨mA,mn,mc,ms⟩,cap⟩=false by rw[HP.s];simp[inB];omega);clear HP;go_enter func23,ntmps23;go_wp2_with fail;rw[<-HWX.s];go_ret;exact⟨bQ HG.s.symm,HBX.s⟩
 have g0:1<=br:=by omega
 clear h0;by_cases h1:8<br
 ·have HG:=uT (show bG ⟨br,⟨lA,ln,lc,ls⟩,tk,⟨mA,mn,mc,ms⟩,cap⟩=false by rw[HP.s];simp[inB];omega);clear HP;go_enter func23,ntmps23;go_wp2_with fail;rw[<-HWX.s];go_ret;exact⟨bQ HG.s.symm,HBX.s⟩
 have g1:br<=8:=by omega
 clear h1;by_cases h2:4<ln
 ·have HG:=uT (show bG ⟨br,⟨lA,ln,lc,ls⟩,tk,⟨mA,mn,mc,ms⟩,cap⟩=false by rw[HP.s];simp[inB];omega);clear HP;go_enter func23,ntmps23;go_wp2_with fail;rw[<-HWX.s];go_ret;exact⟨bQ HG.s.symm,HBX.s⟩
 have g2:ln<=4:=by omega
 clear h2;by_cases h3:tk<1
 ·have HG:=uT (show bG ⟨br,⟨lA,ln,lc,ls⟩,tk,⟨mA,mn,mc,ms⟩,cap⟩=false by rw[HP.s];simp[inB];omega);clear HP;go_enter func23,ntmps23;go_wp2_with fail;rw[<-HWX.s];go_ret;exact⟨bQ HG.s.symm,HBX.s⟩
 have g3:1<=tk:=by omega
 clear h3;by_cases h4:8<tk
 ·have HG:=uT (show bG ⟨br,⟨lA,ln,lc,ls⟩,tk,⟨mA,mn,mc,ms⟩,cap⟩=false by rw[HP.s];simp[inB];omega);clear HP;go_enter func23,ntmps23;go_wp2_with fail;rw[<-HWX.s];go_ret;exact⟨bQ HG.s.symm,HBX.s⟩
 have g4:tk<=8:=by omega
 clear h4;by_cases h5:mn<1
 ·have HG:=uT (show bG ⟨br,⟨lA,ln,lc,ls⟩,tk,⟨mA,mn,mc,ms⟩,cap⟩=false by rw[HP.s];simp[inB];omega);clear HP;go_enter func23,ntmps23;go_wp2_with fail;rw[<-HWX.s];go_ret;exact⟨bQ HG.s.symm,HBX.s⟩
 have g5:1<=mn:=by omega
 clear h5;by_cases h6:3<mn
 ·have HG:=uT (show bG ⟨br,⟨lA,ln,lc,ls⟩,tk,⟨mA,mn,mc,ms⟩,cap⟩=false by rw[HP.s];simp[inB];omega);clear HP;go_enter func23,ntmps23;go_wp2_with fail;rw[<-HWX.s];go_ret;exact⟨bQ HG.s.symm,HBX.s⟩
 have g6:mn<=3:=by omega
 clear h6;by_cases h7:cap<0
 ·have HG:=uT (show bG ⟨br,⟨lA,ln,lc,ls⟩,tk,⟨mA,mn,mc,ms⟩,cap⟩=false by rw[HP.s];simp[inB];omega);clear HP;go_enter func23,ntmps23;go_wp2_with fail;rw[<-HWX.s];go_ret;exact⟨bQ HG.s.symm,HBX.s⟩
 have g7:0<=cap:=by omega
 clear h7;by_cases h8:1048576<cap
 ·have HG:=uT (show bG ⟨br,⟨lA,ln,lc,ls⟩,tk,⟨mA,mn,mc,ms⟩,cap⟩=false by rw[HP.s];simp[inB];omega);clear HP;go_enter func23,ntmps23;go_wp2_with fail;rw[<-HWX.s];go_ret;exact⟨bQ HG.s.symm,HBX.s⟩
 have g8:cap<=1048576:=by omega
 clear h8;obtain⟨b,rfl⟩:=qP (show 0<=br by omega);have hb8:b<=8:=by omega
 have HQ:=uT (show bG ⟨(b:Int),⟨lA,ln,lc,ls⟩,tk,⟨mA,mn,mc,ms⟩,cap⟩=(!(ls.any (zAg b))&& !(ms.any gY))by
  have e1:inB (b:Int) 1 8=true:=by simp[inB];omega
  have e2:decide (ln<=4)=true:=by simp;omega
  have e3:inB tk 1 8=true:=by simp[inB];omega
  have e4:inB mn 1 3=true:=by simp[inB];omega
  have e5:inB cap 0 1048576=true:=by simp[inB];omega
  rw[HP.s,e1,e2,e3,e4,e5];simp)
 generalize bG ⟨(b:Int),⟨lA,ln,lc,ls⟩,tk,⟨mA,mn,mc,ms⟩,cap⟩=R at HQ⊢;have hp1:(2:Int)^b<=256:=by
  have hp:(2:Nat)^b<=2^8:=Nat.pow_le_pow_right (by omega) hb8;have:((2^b:Nat):Int)<=256:=by omega
  simpa using this
 have hp0:(0:Int)<=(2:Int)^b:=by have:(0:Int)<=((2^b:Nat):Int):=Int.natCast_nonneg _;simpa using this
 clear HP;go_enter func23,ntmps23;go_wp2_with fail;rw[<-HWX.s]
 go_loop [56] (λi=>∃(k:Nat),k<=ln/\i= .int .i64 k/\uS ((ls.drop k).any (zAg b)=ls.any (zAg b))) (λi=>ln-(intOf i).toNat)
 case atStart=>exact⟨0,qL _,rfl,rfl⟩
 case round=>
  obtain⟨k,hk,rfl,HX⟩:=hrel;by_cases hlt:k<ln
  ·obtain⟨b1,o1,z,rfl,hbl,hz,hcz⟩:=dQ HLR.s hlt;have HX2:=uT (by have h:=HX.s;rw[cZ ls k z hz,List.any_cons]at h;exact h);clear HX hz;by_cases hz0:z<0
   ·have HG:=uT (show R=false by rw[HQ.s,<-HX2.s];simp[zAg,hz0]);go_wp2_with fail;go_ret;exact⟨bQ HG.s.symm,HBX.s⟩
   by_cases hz1:(2:Int)^b<=z
   ·have HG:=uT (show R=false by rw[HQ.s,<-HX2.s];simp[zAg,hz1]);have hz0':0<=z:=by omega
    go_wp2_with fail;go_ret;exact⟨bQ HG.s.symm,HBX.s⟩
   have hz0':0<=z:=by omega
   have hz1':z<(2:Int)^b:=by omega
   have HX3:=uT (show(ls.drop (k+1)).any (zAg b)=ls.any (zAg b)by rw[<-HX2.s];simp[zAg,hz0,hz1]);clear HX2 hz0 hz1;go_wp2_with fail
   go_round
   case rel=>exact⟨k+1,by omega,by go_num,HX3.s⟩
   case measure=>simp[intOf];omega
  ·obtain rfl:k=ln:=by omega
   have HL:=uT (show ls.any (zAg b)=false by have h:=HX.s;rw[qW (by rw[HLL.s];exact qA _)]at h;exact h.symm)
   clear HX;go_wp2_with fail
   go_loop [73] (λi=>∃(j:Nat),j<=mn/\i= .int .i64 j/\uS ((ms.drop j).any gY=ms.any gY)) (λi=>mn-(intOf i).toNat)
   case atStart=>exact⟨0,qL _,rfl,rfl⟩
   case round=>
    obtain⟨j,hj,rfl,HX⟩:=hrel;by_cases hlt2:j<mn
    ·obtain⟨b1,o1,z,rfl,hbl,hz,hcz⟩:=dQ HMR.s hlt2;have HX2:=uT (by have h:=HX.s;rw[cZ ms j z hz,List.any_cons]at h;exact h);clear HX hz;by_cases hz0:z<0
     ·have HG:=uT (show R=false by rw[HQ.s,<-HX2.s];simp[gY,hz0]);go_wp2_with fail;go_ret;exact⟨bQ HG.s.symm,HBX.s⟩
     by_cases hz1:1048576<z
     ·have HG:=uT (show R=false by rw[HQ.s,<-HX2.s];simp[gY,hz1]);have hz0':0<=z:=by omega
      go_wp2_with fail;go_ret;exact⟨bQ HG.s.symm,HBX.s⟩
     have hz0':0<=z:=by omega
     have hz1':z<=1048576:=by omega
     have HX3:=uT (show(ms.drop (j+1)).any gY=ms.any gY by rw[<-HX2.s];simp[gY,hz0,hz1]);clear HX2 hz0 hz1;go_wp2_with fail
     go_round
     case rel=>exact⟨j+1,by omega,by go_num,HX3.s⟩
     case measure=>simp[intOf];omega
    ·obtain rfl:j=mn:=by omega
     have HG:=uT (show R=true by have h:=HX.s;rw[qW (by rw[HML.s];exact qA _)]at h;rw[HQ.s,<-h,HL.s];rfl)
     clear HX;go_wp2_with fail;go_ret;exact⟨bQ HG.s.symm,HBX.s⟩
def zCu(e:Ent):Nat:=if e.gone then 1 else 0
def zAo(e:Ent):Nat:=(((2+zCu e)*256+e.value.toNat)*2097152+e.time.toNat)*8+e.who.toNat
def zBs(l:List Ent)(k:Int):Option Ent:=l.find? λe=>decide (e.key=k)
def gH(l:List Ent)(k:Int):Nat:=match zBs l k with|some e=>zAo e|none=>0
def zCq(l:List Ent)(k:Int):List (Int×Int):=match zBs l k with
 |some e=>[(1,1),(1,zCu e),(8,e.value),(21,e.time),(3,e.who)]
 |none=>[(34,0)]
structure zDb(e:Ent):Prop where
 value:0<=e.value/\e.value<=255
 time:0<=e.time/\e.time<=1048576
 who:0<=e.who/\e.who<=7
theorem slotN_lt{e:Ent}(h:zDb e):zAo e<2^34:=by
 obtain⟨h1,h2,h3⟩:=h;have hg:zCu e<=1:=by unfold zCu;split<;>omega
 unfold zAo;omega
def zEf(n v:Nat):List Nat:=(List.range n).map λk=>v/2^(n-1-k)%2
theorem zNc(f:Int×Int):cT f=zEf f.1.toNat f.2.toNat:=rfl
theorem yHq(n v:Nat):(zEf n v).length=n:=by simp[zEf]
theorem zFy(a b x y:Nat)(hy:y<2^b):zEf (a+b) (x*2^b+y)=zEf a x++zEf b y:=by
 apply List.ext_getElem?;intro i;rw[List.getElem?_append,yHq];unfold zEf;simp only[qV];by_cases h1:i<a
 ·rw[if_pos h1,List.getElem?_range (by omega),List.getElem?_range h1];simp only[Option.map_some,Option.some.injEq];rw[show a+b-1-i=b+(a-1-i)by omega,Nat.pow_add,<-Nat.div_div_eq_div_mul,Nat.mul_comm x,Nat.mul_add_div (Nat.two_pow_pos b),Nat.div_eq_of_lt hy,Nat.add_zero]
 ·rw[if_neg h1];by_cases h2:i<a+b
  ·rw[List.getElem?_range h2,List.getElem?_range (by omega)];simp only[Option.map_some,Option.some.injEq];rw[show a+b-1-i=b-1-(i-a)by omega];have hlt:b-1-(i-a)<b:=by omega
   generalize b-1-(i-a)=j at hlt;have e:2^b=2^j*2^(b-j):=by rw[<-Nat.pow_add];congr 1;omega
   rw[e,Nat.mul_comm x,Nat.mul_assoc,Nat.mul_add_div (Nat.two_pow_pos j)];have e2:2^(b-j)=2*2^(b-j-1):=by rw[show b-j=(b-j-1)+1 by omega,Nat.pow_succ];simp;omega
   rw[e2,Nat.mul_assoc,Nat.mul_add_mod]
  ·rw[qU (by simp;omega),qU (by simp;omega)];rfl
theorem yIc{e:Ent}(h:zDb e):zEf 34 (zAo e)=bH [(1,1),(1,(zCu e:Int)),(8,e.value),(21,e.time),(3,e.who)]:=by
 obtain⟨h1,h2,h3⟩:=h;have hg:zCu e<=1:=by unfold zCu;split<;>omega
 unfold bH;simp only[jU,List.flatMap_nil,jR,zNc];show zEf 34 (zAo e)=zEf 1 1++(zEf 1 (zCu e)++(zEf 8 e.value.toNat++(zEf 21 e.time.toNat++zEf 3 e.who.toNat)));unfold zAo;rw[show(8:Nat)=2^3 from rfl,zFy 31 3 _ _ (by omega),show(2097152:Nat)=2^21 from rfl,zFy 10 21 _ _ (by omega),show(256:Nat)=2^8 from rfl,zFy 2 8 _ _ (by omega),show 2+zCu e=1*2^1+zCu e from rfl,zFy 1 1 _ _ (by omega)];simp only[jK]
theorem zRs{l:List Ent}(h:∀e∈l,zDb e)(k:Int):cT (34,(gH l k:Int))=bH (zCq l k):=by
 unfold gH zCq;rw[zNc];cases hk:zBs l k with
 |none=>rfl
 |some e=>have he:=h e (List.mem_of_find?_eq_some hk);exact yIc he
theorem zXu{l:List Ent}(h:∀e∈l,zDb e)(k:Int):gH l k<2^34:=by
 unfold gH;cases hk:zBs l k with
 |none=>simp
 |some e=>exact slotN_lt (h e (List.mem_of_find?_eq_some hk))
def bM(a b:Nat):List Int->Nat->List Nat
 |[],_=>[]
 |z::ls,i=>if z.toNat.testBit a&&z.toNat.testBit b then i::bM a b ls (i+1)else bM a b ls (i+1)
theorem zGa(a b:Nat):∀(ls:List Int) (i:Nat),(bM a b ls i).length<=ls.length
 |[],_=>qA _
 |z::ls,i=>by
  have:=zGa a b ls (i+1);unfold bM
  split<;>simp<;>omega
theorem zCp(a b:Nat):∀(ls:List Int) (i:Nat),∀x∈bM a b ls i,i<=x/\x<i+ls.length
 |[],_=>λx hx=>by simp[bM]at hx
 |z::ls,i=>λx hx=>by
  unfold bM at hx;have ih:=zCp a b ls (i+1)
  split at hx
  ·rcases jD.1 hx with rfl|hx
   ·simp
   ·have:=ih x hx;simp;omega
  ·have:=ih x hx;simp;omega
def slotsOf(l:List Ent):List (Int×Int):=(List.range 8).map λk:Nat=>(34,(gH l k:Int))
def dS(rows:List (List Ent))(is:List Nat):List (Int×Int):=is.flatMap λi=>slotsOf (rows.getD i [])
def dZ(l:List Ent):Bool:=l.any λe=>decide (8<=e.key)||decide (255<e.value)
def cG(c:Cfg)(z:Int):Bool:=decide (0<=z)&&decide (z<c.br)
def bT(c:Cfg)(a b:Int)(rows:List (List Ent)):List Int×Int:=
 if bG c=false then([],4)
 else if cG c a=false\/cG c b=false then([],2)
 else if rows.length≠c.la.zs.length then([],1)
 else if rows.any (λl=> !bU l)=true then([],4)
 else if(bM a.toNat b.toNat c.la.zs 0).any (λi=>dZ (rows.getD i []))=true then([],12)
 else(bytesOf (bH (dS rows (bM a.toNat b.toNat c.la.zs 0))) (34*(bM a.toNat b.toNat c.la.zs 0).length),0)
theorem zTq:∀(n:Nat) (b:Int),zCk (List.replicate n 34) b=((b+34*n+7)/8,0)
 |0,b=>by simp[zCk]
 |n+1,b=>by
  rw[List.replicate_succ,zCk,if_neg (by omega),zTq n]
  congr 2
  omega
theorem zGk(rows:List (List Ent)):∀is:List Nat,(dS rows is).map (·.1)=List.replicate (8*is.length) 34
 |[]=>rfl
 |i::is=>by
  have h:=zGk rows is;unfold dS at h⊢;rw[jU,jA,h];have e:(slotsOf (rows.getD i [])).map (·.1)=List.replicate 8 34:=by simp[slotsOf,List.range_succ]
  rw[e,List.replicate_append_replicate]
  congr 1
  simp;omega
theorem rum_pack(rows:List (List Ent))(is:List Nat)(hl:is.length<=4)(h:∀i∈is,∀e∈rows.getD i [],zDb e):gM (dS rows is)=(bytesOf (bH (dS rows is)) (34*is.length),0):=by
 unfold gM;have hs:zAc ((dS rows is).map (·.1))=(((34*is.length:Nat):Int),0):=by
  rw[zGk];unfold zAc;rw[jB,if_neg (by omega),zTq]
  congr 1
  omega
 rw[hs];dsimp only;rw[if_neg (by simp),if_pos,qR];rw[uE];intro f hf;unfold dS at hf;obtain⟨i,hi,hf⟩:=List.mem_flatMap.1 hf;unfold slotsOf at hf;obtain⟨k,hk,rfl⟩:=jC.1 hf;have:=zXu (h i hi) k;generalize gH (rows.getD i []) k=v at this;unfold zBp;simp;omega
theorem zHa(k x y:Nat)(hk:k<=62)(hx:x*2^k<9223372036854775808)(hy:y<2^k):bits .or .i64 ((x*2^k:Nat):Int) (y:Int)=((x*2^k+y:Nat):Int):=by have hp:(2:Nat)^k<=2^62:=Nat.pow_le_pow_right (by omega) hk;rw[zQt _ _ hx (by omega),nat_join k _ _ (by simp) hy]
theorem zYb(a value time who:Nat)(ha:a<=3)(v2:value<=255)(t2:time<=1048576)(w2:who<=7):bits .or .i64 (wrap64 (bits .or .i64 (wrap64 (bits .or .i64 ((a*2^8:Nat):Int) value*2097152)) time*8)) who=((((a*256+value)*2097152+time)*8+who:Nat):Int):=by rw[zHa 8 a value (by omega) (by omega) (by omega)];rw[show wrap64 (((a*2^8+value:Nat):Int)*2097152)=(((a*256+value)*2^21:Nat):Int)by unfold wrap64;omega];rw[zHa 21 (a*256+value) time (by omega) (by omega) (by omega)];rw[show wrap64 ((((a*256+value)*2^21+time:Nat):Int)*8)=((((a*256+value)*2097152+time)*2^3:Nat):Int)by unfold wrap64;omega];rw[zHa 3 _ who (by omega) (by omega) (by omega)]
theorem zVv(e:Ent)(w:World)(h:zDb e):Calls prog 109 #[zCe e] w λx w'=>x= .returned (.int .i64 (zAo e))/\uR w w':=by
 obtain⟨⟨v1,v2⟩,⟨t1,t2⟩,⟨w1,w2⟩⟩:=h;obtain⟨key,value,time,who,gone⟩:=e;dsimp only at v1 v2 t1 t2 w1 w2;obtain⟨value,rfl⟩:=qP v1;obtain⟨time,rfl⟩:=qP t1;obtain⟨who,rfl⟩:=qP w1;unfold zCe;dsimp only;have hv2:value<=255:=by omega
 have ht2:time<=1048576:=by omega
 have hw2:who<=7:=by omega
 have hb:uR w (w.alloc (.cells #[.int .i64 key,.int .i64 value,.int .i64 time,.int .i64 who,.bool gone] 125)):=(qC _ _).alloc (qA _) _;have HB:=uT hb;cases gone
 ·have HS:=uT (zYb 2 value time who (by omega) hv2 ht2 hw2);clear hb;go_enter func109,ntmps109;go_wp2_with fail;go_ret;exact⟨fG HS.s,HB.s⟩
 ·have HS:=uT (zYb 3 value time who (by omega) hv2 ht2 hw2);clear hb;go_enter func109,ntmps109;go_wp2_with fail;go_ret;exact⟨fG HS.s,HB.s⟩
theorem zVt(z:Int)(c:Cfg)(p:Nat)(w:World)(hbr: -9000000000000000000<=c.br/\c.br<=9000000000000000000)(hp:w.cell? ⟨p,0,none⟩=some (.int .i64 c.br)):Calls prog 126 #[.int .i64 z,.pointer (some ⟨p,0,none⟩)] w λx w'=>x= .returned (.bool (!cG c z))/\w=w':=by obtain⟨br,la,tk,mi,cap⟩:=c;dsimp only at hp hbr;obtain⟨H,HF⟩:=uI (zCw z 0 (br-1) w) (show inB z 0 (br-1)=cG ⟨br,la,tk,mi,cap⟩ z by unfold inB cG;dsimp only;rw[Bool.eq_iff_iff];simp;omega);obtain⟨h1,h2⟩:=hbr;generalize inB z 0 (br-1)=x at H HF;go_enter func126,ntmps126;go_wp2_with fail;refine H.s.mono ?_;rintro _ _ ⟨rfl,rfl⟩;go_wp2_with fail;go_ret;exact⟨bQ (by rw[<-HF.s]),rfl⟩
theorem zQa(args:Array Value)(W:World):(callFunc 126 args).run prog W= .ok (.enter 126 args) W:=
 zAi func126 (by kernel_rfl) rfl args W
def Cfg.cells(c:Cfg):List Value:=[.int .i64 c.br,.slice c.la.A c.la.n c.la.c,.int .i64 c.tk,.slice c.mi.A c.mi.n c.mi.c,.int .i64 c.cap]
theorem zRc(c:Cfg):(#[.int .i64 c.br,.slice c.la.A c.la.n c.la.c,.int .i64 c.tk,.slice c.mi.A c.mi.n c.mi.c,.int .i64 c.cap]:Array Value)=c.cells.toArray:=rfl
theorem zEg(c:Cfg)(A:Option Addr)(n cc:Nat)(zs:List Int)(B:Nat)(w:World)(hbr: -9000000000000000000<=c.br/\c.br<=9000000000000000000)(hl:zs.length=n)(hm:n<=maxLen)(hr:Reads w B 1 A n (zs.map (.int .i64)))(hB:B<=w.heap.size):Calls prog 104 #[c.val,.slice A n cc] w λe w'=>e= .returned (.bool (zs.all (cG c)))/\uR w w':=by
 obtain⟨w1,hw1⟩:=kB (w.alloc (.cells c.cells.toArray 24));have hb1:=uH hw1;obtain⟨p,hp⟩:=kB w.heap.size;have kb:Blk w1 p 24 c.cells.toArray:=by rw[hw1,hp];exact Blk.new w _ _
 have HCF:=uT (zGq 126 #[.pointer (some ⟨p,0,none⟩)] (λz=> !cG c z) A n cc zs B (λW=>w1=W) w1 hl hm (λW hW=>by rw[<-hW];exact hr.below (hb1.mono hB)) rfl zQa λz W _ hW=>by rw[<-hW];exact zVt z c p w1 hbr (kb.cell 0))
 have HF:=uT (show(!zs.any λz=> !cG c z)=zs.all (cG c)by rw[List.any_eq_not_all_not];simp);generalize(zs.any λz=> !cG c z)=x at HCF HF;obtain⟨HW1,HP,HB⟩:=uJ hw1 hp hb1;clear hb1 kb hl hm hr hp hw1;obtain⟨br,la,tk,mi,cap⟩:=c;unfold Cfg.cells at HW1;unfold Cfg.val;dsimp only at HW1⊢;go_enter func104,ntmps104;go_upto_region 1 with fail;rw[<-HP.s];rw[show w.alloc (.cells #[.int .i64 br,.slice la.A la.n la.c,.int .i64 tk,.slice mi.A mi.n mi.c,.int .i64 cap] 24)=w1 from HW1.s.symm];go_wp2_with fail;refine HCF.s.mono ?_;rintro _ _ ⟨rfl,rfl⟩;go_wp2_with fail;go_ret;exact⟨bQ HF.s,HB.s⟩
theorem yGy(z a b:Nat)(hz:z<=255):(bits .and .i64 (bits .and .i64 ((z:Int)/2^a) ((z:Int)/2^b)) 1==1)=(z.testBit a&&z.testBit b):=by
 have ea:((z:Int)/2^a)=((z/2^a:Nat):Int):=by simp
 have eb:((z:Int)/2^b)=((z/2^b:Nat):Int):=by simp
 have ha:z/2^a<=255:=qN (Nat.div_le_self _ _) hz;have hb:z/2^b<=255:=qN (Nat.div_le_self _ _) hz;have hab:(z/2^a)&&&(z/2^b)<=255:=qN Nat.and_le_left ha;rw[ea,eb,zBz _ _ (by omega) (by omega),show(1:Int)=((1:Nat):Int)from rfl,zBz _ _ (by omega) (by omega),Nat.and_one_is_mod];have h:((z/2^a)&&&(z/2^b)).testBit 0=(z.testBit a&&z.testBit b):=by rw[Nat.testBit_and,Nat.testBit_div_two_pow,Nat.testBit_div_two_pow];simp
 rw[<-h,Nat.testBit_zero];generalize(z/2^a)&&&(z/2^b)=x;rw[Bool.eq_iff_iff];simp;omega
theorem zJx(c:Cfg)(a b:Nat)(B:Nat)(w:World)(hc:c.ok w B)(hB:B<=w.heap.size)(ha:a<=60)(hb:b<=60)(h4:c.la.zs.length<=4)(hz:∀z∈c.la.zs,0<=z/\z<=255):Calls prog 108 #[c.val,.int .i64 a,.int .i64 b] w λe w'=>∃v,e= .returned v/\w'.ownsRow w.heap.size 3 1 v (bM a b c.la.zs 0).length ((bM a b c.la.zs 0).map λi=>Value.int .i64 ((i:Nat):Int))/\uR w w':=by
 obtain⟨br,⟨lA,ln,lc,ls⟩,tk,mi,cap⟩:=c;obtain⟨⟨l1,l2,l3,l4⟩,_,_⟩:=hc;dsimp only at l1 l2 l3 l4 h4 hz;obtain⟨w1,hw1⟩:=kB (w.alloc (.cells #[.int .i64 br,.slice lA ln lc,.int .i64 tk,.slice mi.A mi.n mi.c,.int .i64 cap] 24));have hb1:=uH hw1;obtain⟨p,hp⟩:=kB w.heap.size;have kb:Blk w1 p 24 #[.int .i64 br,.slice lA ln lc,.int .i64 tk,.slice mi.A mi.n mi.c,.int .i64 cap]:=by rw[hw1,hp];exact Blk.new w _ _
 have p1:w1.cell? ⟨p,1,none⟩=some (.slice lA ln lc):=kb.cell 1;obtain⟨iI,hiI,hzI,hsI,hyI⟩:∃i,prog.info? 3=some i/\i.zero=some (.int .i64 0)/\i.size=1/\i.bytes=8:=gB (by kernel_rfl);obtain⟨HLR,HL⟩:=uI ((l4.more hB)) l1;have hln:ln<=4:=by omega
 obtain⟨HZ,HW1,HP,HB1⟩:=uK hz hw1 hp hb1;unfold Cfg.val;dsimp only;clear l1 l2 l3 l4 hz hw1 hp kb hb1 h4;go_enter func108,ntmps108;go_upto_region 1 with fail;rw[<-HP.s,<-HW1.s];go_wp2_with fail
 go_loopw [7,13] (λo j W=>∃(k:Nat) (M:List Nat),k<=ln/\j= .int .i64 k/\uS (M++bM a b (ls.drop k) k=bM a b ls 0)/\uS (M.length<=k)/\uS (W.ownsRow w.heap.size 3 1 o M.length (M.map λi=>Value.int .i64 ((i:Nat):Int)))/\uR w W) (λ_ j _=>ln-(intOf j).toNat)
 case atStart=>exact⟨0,[],qL _,rfl,rfl,uT (qA _),qH _ _ _ _,HB1.s⟩
 case round=>
  obtain⟨k,M,hk,rfl,HM,HML,HO,hz⟩:=hrel;by_cases hlt:k<ln
  ·obtain⟨b1,o1,z,rfl,hbl,hzk,hcz⟩:=dQ (HLR.s.below hz) hlt;have hzz:=HZ.s z (qB hzk);obtain⟨z,rfl⟩:=qP hzz.1;have hbb:=yGy z a b (by omega);have HM2:=uT (show M++(if z.testBit a&&z.testBit b then k::bM a b (ls.drop (k+1)) (k+1)else bM a b (ls.drop (k+1)) (k+1))=bM a b ls 0 by have h:=HM.s;rw[cZ ls k z hzk,bM,qR]at h;exact h)
   have hkn:(k:Int)<(ln:Int):=by omega
   clear HM hzk hbl hzz;obtain⟨x,hx⟩:=kB ((z.testBit a&&z.testBit b));rw[<-hx]at hbb HM2;clear hx;go_wp2_with fail;go_quiet (fail);have hzd:uR w (wr.drewN nq):=below_drewN hz nq;cases x
   ·go_wp2_with fail;go_roundw
    case rel=>exact⟨k+1,M,by omega,by go_num,by simpa using HM2,uT (by have:=HML.s;omega),HO,hzd⟩
    case measure=>simp[intOf];omega
   ·obtain⟨A1,c1,rfl,_⟩:=bE HO.s;have hml:=HML.s;obtain⟨q,hq⟩:=kB M.length;rw[<-hq]at HO hml;rw[<-hq];have HQ:=uT hq;have hmq:(q+1)*8<=140737488355328:=by omega
    have hs:=hz.size;have HOD:=uT (show(wr.drewN nq).ownsRow w.heap.size 3 1 (.slice A1 q c1) q (M.map λi=>Value.int .i64 ((i:Nat):Int))from HO.s);clear hq;go_wp2_with(first
     |(at_builtin;(refine bF _ rfl (.tmp 27) (.tmp 29) _ rfl w.heap.size 3 iI _ 1 8 underlying22 hiI hzI hsI hyI rfl (by omega) (by omega) _ q _ HOD.s rfl _ 1 _ rfl rfl rfl (by simp[Value.oneCell']) hmq hs ?_);intro g4 cap4 w4 hg4 hown4 hbel4 hgr4 hat4))
    obtain⟨HO4,HB4⟩:=uI (show w4.ownsRow w.heap.size 3 1 (.slice (some ⟨g4,0,none⟩) (q+1) cap4) (M++[k]).length ((M++[k]).map λi=>Value.int .i64 ((i:Nat):Int))by rw[qM,jA,<-HQ.s];simpa using hown4) (hbel4 _ _ (qA _) hzd);clear hown4 hbel4 hgr4 hat4 hg4;go_roundw
    case rel=>exact⟨k+1,M++[k],by omega,by go_num,uT (by have h:=HM2.s;simpa using h),uT (by rw[qM,<-HQ.s];simp;omega),HO4,HB4.s⟩
    case measure=>simp[intOf];omega
  ·obtain rfl:k=ln:=by omega
   go_wp2_with fail;go_ret;refine⟨_,rfl,?_,hz⟩;have h:=HM.s;rw[qW (by rw[HL.s];exact qA _),bM,jR]at h;rw[<-h];exact HO.s
def zJd{α:Type}(f:α->Bool):List α->Nat->Int
 |[],_=> -1
 |z::l,k=>if f z then k else zJd f l (k+1)
theorem zXd{α:Type}(f:α->Bool):∀(l:List α) (k:Nat),decide (0<=zJd f l k)=l.any f
 |[],k=>by simp[zJd]
 |z::l,k=>by
  cases hf:f z with
  |true=>simp[zJd,hf]
  |false=>simp only[zJd,hf,List.any_cons,Bool.false_or];exact zXd f l (k+1)
theorem zXa(fn:FuncId)(f:EnR->Bool)(A:Option Addr)(n c:Nat)(rs:List EnR)(w:World)(hl:rs.length=n)(hm:n<=maxLen)(hr:Reads w w.heap.size 1 A n (rs.map EnR.val))(hrun:∀args W,(callFunc fn args).run prog W= .ok (.enter fn args) W)(h:∀r W,r∈rs->uR w W->Calls prog fn #[r.val] W λx w'=>x= .returned (.bool (f r))/\uR w w'):Calls prog 127 #[.slice A n c,.func (.func fn) #[] #[]] w λe w'=>e= .returned (.int .i64 (zJd f rs 0))/\uR w w':=by
 obtain⟨HR,HL,H⟩:=uJ hr hl h;unfold maxLen at hm;clear hr hl h;go_enter func127,ntmps127;go_wp2_with fail
 go_loopw [8] (λi wr=>∃(k:Nat),k<=n/\i= .int .i64 k/\uS (uR w wr)/\uS (zJd f (rs.drop k) k=zJd f rs 0)) (λi _=>n-(intOf i).toNat)
 case atStart=>exact⟨0,qL _,rfl,qC _ _,rfl⟩
 case round=>
  obtain⟨k,hk,rfl,HW,HX⟩:=hrel;by_cases hlt:k<n
  ·obtain⟨b,o,r,rfl,hbl,hz,hc⟩:=zCv EnR.val (HR.s.below HW.s) hlt;obtain⟨HX2,H2⟩:=uI (by have h:=HX.s;rw[cZ rs k r hz,zJd]at h;exact h) (H.s r wr (qB hz) HW.s);clear HX hz;obtain⟨v,hv⟩:=kB r.val;rw[<-hv]at H2 hc;clear hv;cases hf:f r with
   |true=>have HX3:=uT (by have h:=HX2.s;rw[if_pos hf]at h;exact h);rw[hf]at H2;clear HX2;go_wp2_with fail;refine H2.s.mono ?_;rintro _ w2 ⟨rfl,hb2⟩;have HB2:=uT hb2;clear hb2;go_wp2_with fail;go_ret;exact⟨fG HX3.s,HB2.s⟩
   |false=>
    have HX3:=uT (by have h:=HX2.s;rw[if_neg (by rw[hf];simp)]at h;exact h);rw[hf]at H2;clear HX2;go_wp2_with fail;refine H2.s.mono ?_;rintro _ w2 ⟨rfl,hb2⟩;have HB2:=uT hb2;clear hb2;go_wp2_with fail;go_roundw
    case rel=>exact⟨k+1,by omega,by go_num,HB2,HX3.s⟩
    case measure=>simp[intOf];omega
  ·obtain rfl:k=n:=by omega
   have HF:=uT (show zJd f rs 0= -1 by have h:=HX.s;rw[qW (by rw[HL.s];exact qA _)]at h;exact h.symm)
   clear HX;go_wp2_with fail;go_ret;exact⟨fG HF.s.symm,HW.s⟩
theorem zJm(fn:FuncId)(f:EnR->Bool)(A:Option Addr)(n c:Nat)(rs:List EnR)(w:World)(hl:rs.length=n)(hm:n<=maxLen)(hr:Reads w w.heap.size 1 A n (rs.map EnR.val))(hrun:∀args W,(callFunc fn args).run prog W= .ok (.enter fn args) W)(h:∀r W,r∈rs->uR w W->Calls prog fn #[r.val] W λx w'=>x= .returned (.bool (f r))/\uR w w'):Calls prog 105 #[.slice A n c,.func (.func fn) #[] #[]] w λe w'=>e= .returned (.bool (rs.any f))/\uR w w':=by obtain⟨H,HF⟩:=uI (zXa fn f A n c rs w hl hm hr hrun h) (zXd f rs 0);obtain⟨x,hx⟩:∃x,zJd f rs 0=x:=⟨_,rfl⟩;rw[hx]at H HF;clear hl hr hrun h hm hx;go_enter func105,ntmps105;go_wp2_with fail;refine H.s.mono ?_;rintro _ w2 ⟨rfl,hb2⟩;have HB2:=uT hb2;clear hb2;go_wp2_with fail;go_ret;exact⟨bQ (by rw[<-HF.s]),HB2.s⟩
theorem zRl(A:Option Addr)(n c:Nat)(l:List Ent)(B:Nat)(w:World)(hl:l.length=n)(hm:n<=maxLen)(hr:Reads w B 5 A n (l.flatMap bD))(hB:B<=w.heap.size):Calls prog 106 #[.slice A n c] w λx w'=>x= .returned (.bool (!bU l))/\uR w w':=by have H:=uT (zIh A n c l B w hl hm hr hB);clear hl hm hr;generalize bU l=x at H;go_enter func106,ntmps106;go_wp2_with fail;refine H.s.mono ?_;rintro _ w2 ⟨rfl,hb2⟩;have HB2:=uT hb2;clear hb2;go_wp2_with fail;go_ret;exact⟨rfl,HB2.s⟩
theorem zMh(args:Array Value)(W:World):(callFunc 106 args).run prog W= .ok (.enter 106 args) W:=
 zAi func106 (by kernel_rfl) rfl args W
def zCa(r:List Int×Int)(w:World)(e:Ending)(w':World):Prop:=
 ∃v,e= .returned (.tuple #[v,.int .i64 r.2])/\w'.ownsRow w.heap.size 5 1 v r.1.length (r.1.map (.int .u8))/\uR w w'
def TabR.es(t:TabR):List (List Ent):=t.rs.map EnR.es
structure TabOk(w:World)(B:Nat)(t:TabR):Prop where
 rd:TabRd w B t
 len:t.rs.length<=maxLen
 each:∀r∈t.rs,r.es.length<=maxLen
theorem TabOk.below{w w':World}{B:Nat}{t:TabR}(h:TabOk w B t)(hb:Below B w w'):TabOk w' B t:=⟨h.rd.below hb,h.len,h.each⟩
theorem TabOk.more{w:World}{B B':Nat}{t:TabR}(h:TabOk w B t)(hb:B<=B'):TabOk w B' t:=⟨h.rd.more hb,h.len,h.each⟩
theorem zFq{c:Cfg}(h:bG c=true):1<=c.br/\c.br<=8/\c.la.zs.length<=4/\∀z∈c.la.zs,0<=z/\z<=255:=by
 unfold bG at h;simp only[qT,inB,decide_eq_true_eq,Bool.not_eq_true']at h;obtain⟨⟨⟨⟨⟨⟨h1,h2⟩,h3⟩,h4⟩,h5⟩,h6⟩,h7⟩:=h;refine⟨h1.1,h1.2,h2,λz hz=> ?_⟩;have:=List.any_eq_false.1 h6 z hz;unfold zAg at this;simp only[Bool.or_eq_true,decide_eq_true_eq]at this;have hp:(2:Nat)^c.br.toNat<=2^8:=Nat.pow_le_pow_right (by omega) (by omega);have hp':(2:Int)^c.br.toNat<=256:=by
  have:((2^c.br.toNat:Nat):Int)<=256:=by omega
  simpa using this
 omega
theorem zYf(c:Cfg)(a b:Int)(t:TabR)(B:Nat)(w:World)(hc:c.ok w B)(ht:TabOk w B t)(hB:B<=w.heap.size)(hbad:¬ (bG c=true/\(cG c a=true/\cG c b=true)/\t.es.length=c.la.zs.length/\t.es.any (λl=> !bU l)=false)):Calls prog 81 #[c.val,.int .i64 a,.int .i64 b,t.val] w (zCa (bT c a b t.es) w):=by
 have hfin:∀(x:Int) W,uR w W->bT c a b t.es=([],x)->zCa (bT c a b t.es) w (.returned (.tuple #[.slice none 0 0,.int .i64 x])) W:=λx W hW hp=>by rw[hp];exact⟨_,rfl,qH _ _ _ _,hW⟩
 obtain⟨HFIN,HMY,HBR,HTC⟩:=uK hfin (λW (hW:uR w W)=>zCh c B W (hc.below (hW.mono hB)) (qN hB hW.size)) (λ(W:World) (h:bG c=true) (A:Option Addr) (cc:Nat) (hr:Reads W W.heap.size 1 A 2 ([a,b].map (.int .i64)))=>zEg c A 2 cc [a,b] W.heap.size W (by have:=zFq h;omega) rfl (by unfold maxLen;omega) hr (qA _)) (λ(W:World) (hW:uR w W)=>zJm 106 (λr=> !bU r.es) t.A t.rs.length t.c t.rs W rfl ht.len ((ht.rd.below (hW.mono hB)).1.more (qN hB hW.size)) zMh λr W2 hr hW2=>(zRl r.A r.es.length r.c r.es W.heap.size W2 rfl (ht.each r hr) ((((ht.rd.below (hW.mono hB)).2 r hr).more (qN hB hW.size)).below hW2) hW2.size).mono λ_ _ ⟨he,hb⟩=>⟨he,hW2.trans (hb.mono hW2.size)⟩);have hll:=hc.1.1;have hlm:=hc.1.2.2.1;have htl:t.es.length=t.rs.length:=by unfold TabR.es;rw[qQ]
 have hte:t.es.any (λl=> !bU l)=t.rs.any (λr=> !bU r.es):=by unfold TabR.es;rw[List.any_map];rfl
 rw[<-hte]at HTC;obtain⟨rs,tA,tc⟩:=t;unfold TabR.val;dsimp only at HTC htl⊢;have hbnd:=ht.len;dsimp only at hbnd;unfold maxLen at hbnd hlm;obtain⟨w1,hw1⟩:=kB (w.alloc (.cells c.cells.toArray 24));have hb1:=uH hw1;obtain⟨p,hp⟩:=kB w.heap.size;have kb:Blk w1 p 24 c.cells.toArray:=by rw[hw1,hp];exact Blk.new w _ _
 obtain⟨HB1,HW1,HP,HRP⟩:=uK hb1 hw1 hp (show bT c a b (TabR.es ⟨rs,tA,tc⟩)=bT c a b (TabR.es ⟨rs,tA,tc⟩)from rfl);have hP1:bG c=false->bT c a b (TabR.es ⟨rs,tA,tc⟩)=([],4):=λh=>by unfold bT;rw[if_pos h]
 have hP2:bG c=true->(cG c a=false\/cG c b=false)->bT c a b (TabR.es ⟨rs,tA,tc⟩)=([],2):=λh h2=>by unfold bT;rw[if_neg (by rw[h];simp),if_pos h2]
 have hP3:bG c=true->(cG c a=true/\cG c b=true)->(TabR.es ⟨rs,tA,tc⟩).length≠c.la.zs.length->bT c a b (TabR.es ⟨rs,tA,tc⟩)=([],1):=λh h2 h3=>by unfold bT;rw[if_neg (by rw[h];simp),if_neg (by rw[h2.1,h2.2];simp),if_pos h3]
 have hP4:bG c=true->(cG c a=true/\cG c b=true)->(TabR.es ⟨rs,tA,tc⟩).length=c.la.zs.length->(TabR.es ⟨rs,tA,tc⟩).any (λl=> !bU l)=true->bT c a b (TabR.es ⟨rs,tA,tc⟩)=([],4):=λh h2 h3 h4=>by unfold bT;rw[if_neg (by rw[h];simp),if_neg (by rw[h2.1,h2.2];simp),if_neg (by rw[h3];simp),if_pos h4]
 generalize bT c a b (TabR.es ⟨rs,tA,tc⟩)=R at*;obtain⟨HP1,HP2,HP3,HP4⟩:=uK hP1 hP2 hP3 hP4;have k0:=λ(W:World) (hz:uR w1 W)=>(kb.below hz kb.lt).cell 0
 have k1:=λ(W:World) (hz:uR w1 W)=>(kb.below hz kb.lt).cell 1
 have k2:=λ(W:World) (hz:uR w1 W)=>(kb.below hz kb.lt).cell 2
 have k3:=λ(W:World) (hz:uR w1 W)=>(kb.below hz kb.lt).cell 3
 have k4:=λ(W:World) (hz:uR w1 W)=>(kb.below hz kb.lt).cell 4
 have hz1:uR w1 w1:=qC _ _;clear hb1 kb hp hw1 hc ht hfin hP1 hP2 hP3 hP4 HRP hte;obtain⟨br,⟨lA,ln,lc,ls⟩,tk,⟨mA,mn,mc,ms⟩,cap⟩:=c;unfold Cfg.cells at HW1 k0 k1 k2 k3 k4;unfold Cfg.val at HMY HBR⊢;dsimp only at HMY HBR HW1 k0 k1 k2 k3 k4 hll hlm htl⊢;simp only[jH,List.getElem?_cons_zero,jP]at k0 k1 k2 k3 k4;have hbad2:=uT hbad;dsimp only at hbad2;clear hbad;cases hcf:bG ⟨br,⟨lA,ln,lc,ls⟩,tk,⟨mA,mn,mc,ms⟩,cap⟩
 ·rw[hcf]at HMY HP1;clear hcf;go_enter func81,ntmps81;go_upto_region 1 with fail;rw[<-HP.s,<-HW1.s];go_wp2_with fail;refine(HMY.s w1 HB1.s).mono ?_;rintro _ w2 ⟨rfl,hb2⟩;have HB2:=uT (HB1.s.trans (hb2.mono HB1.s.size));clear hb2;go_wp2_with fail;go_ret2;exact HFIN.s _ _ HB2.s (HP1.s trivial)
 rw[hcf]at HMY HBR HP2 HP3 HP4;have HBA:=uT hbad2.s;rw[hcf]at HBA;clear hcf hbad2;have HCB:=uT (λ(W:World) (hW:uR w1 W) (cc:Nat) (g:Nat) (hg:Blk W g 3 #[.int .i64 a,.int .i64 b])=>HBR.s W rfl (some ⟨g,0,none⟩) cc (by have:=gQ (cs:=[.int .i64 a,.int .i64 b]) hg hg.lt;simpa using this));clear HBR;cases hab:cG ⟨br,⟨lA,ln,lc,ls⟩,tk,⟨mA,mn,mc,ms⟩,cap⟩ a&&cG ⟨br,⟨lA,ln,lc,ls⟩,tk,⟨mA,mn,mc,ms⟩,cap⟩ b
 ·obtain⟨HPX,HCB'⟩:=uI (HP2.s rfl (by rw[<-Bool.and_eq_false_iff];exact hab)) (by have h:=HCB.s;simp only[List.all_cons,List.all_nil,Bool.and_true]at h;rw[hab]at h;exact h);clear hab HCB;go_enter func81,ntmps81;go_upto_region 1 with fail;rw[<-HP.s,<-HW1.s];go_wp2_with fail;refine(HMY.s w1 HB1.s).mono ?_;rintro _ w2 ⟨rfl,hb2⟩;have hz2:uR w1 w2:=hb2;have HB2:=uT (HB1.s.trans (hb2.mono HB1.s.size));clear hb2;go_wp2_with fail;have hz3:uR w1 (w2.alloc (.cells #[.int .i64 a,.int .i64 b] 3)):=hz2.alloc hz2.size _;refine(HCB'.s _ hz3 2 _ (Blk.new w2 _ _)).mono ?_;rintro _ w3 ⟨rfl,hb3⟩;have HB3:=uT (HB1.s.trans ((hz3.trans (hb3.mono hz3.size)).mono HB1.s.size));clear hb3 hz3;go_wp2_with fail;go_ret2;exact HFIN.s _ _ HB3.s HPX.s
 have hab2:cG ⟨br,⟨lA,ln,lc,ls⟩,tk,⟨mA,mn,mc,ms⟩,cap⟩ a=true/\cG ⟨br,⟨lA,ln,lc,ls⟩,tk,⟨mA,mn,mc,ms⟩,cap⟩ b=true:=by simpa using hab
 obtain⟨HBC,HCB',HP3',HP4',HTL,HLL⟩:=uM (λh=>HBA.s ⟨rfl,hab2,h⟩) (by have h:=HCB.s;simp only[List.all_cons,List.all_nil,Bool.and_true]at h;rw[hab]at h;exact h) (HP3.s rfl hab2) (HP4.s rfl hab2) htl hll;clear hab hab2 HCB HBA HP3 HP4 HP1 HP2 htl hll;by_cases hn:rs.length=ln
 ·have HPY:=uT (by
   cases hm:(TabR.es ⟨rs,tA,tc⟩).any (λl=> !bU l)with
   |true=>exact HP4'.s (by rw[HTL.s,HLL.s,hn]) hm
   |false=>exact absurd ⟨by rw[HTL.s,HLL.s,hn],hm⟩ HBC.s)
  have hm:(TabR.es ⟨rs,tA,tc⟩).any (λl=> !bU l)=true:=by
   cases hm:(TabR.es ⟨rs,tA,tc⟩).any (λl=> !bU l)with
   |true=>rfl
   |false=>exact absurd ⟨by rw[HTL.s,HLL.s,hn],hm⟩ HBC.s
  rw[hm]at HTC;have e2:(rs.length !=ln)=false:=by simpa using hn
  clear hm hn HP3' HP4' HBC HTL HLL;generalize rs.length=q at*;go_enter func81,ntmps81;go_upto_region 1 with fail;rw[<-HP.s,<-HW1.s];go_wp2_with fail;refine(HMY.s w1 HB1.s).mono ?_;rintro _ w2 ⟨rfl,hb2⟩;have hz2:uR w1 w2:=hb2;have HB2:=uT (HB1.s.trans (hb2.mono HB1.s.size));clear hb2;go_wp2_with fail;have hz3:uR w1 (w2.alloc (.cells #[.int .i64 a,.int .i64 b] 3)):=hz2.alloc hz2.size _;refine(HCB'.s _ hz3 2 _ (Blk.new w2 _ _)).mono ?_;rintro _ w3 ⟨rfl,hb3⟩;have hz4:uR w1 w3:=hz3.trans (hb3.mono hz3.size);have HB3:=uT (HB1.s.trans (hz4.mono HB1.s.size));clear hb3 hz3;go_wp2_with fail;refine(HTC.s _ HB3.s).mono ?_;rintro _ w4 ⟨rfl,hb4⟩;have HB4:=uT (HB3.s.trans (hb4.mono HB3.s.size));clear hb4;go_wp2_with fail;go_ret2;exact HFIN.s _ _ HB4.s HPY.s
 ·have HPX:=uT (HP3'.s (by rw[HTL.s,HLL.s];exact hn));have e2:(rs.length !=ln)=true:=by simpa using hn
  have e3:(((rs.length:Nat):Int) !=(ln:Nat))=true:=by simp;omega
  clear HP3' HP4' HBC HTL HLL hn;generalize rs.length=q at*;go_enter func81,ntmps81;go_upto_region 1 with fail;rw[<-HP.s,<-HW1.s];go_wp2_with fail;refine(HMY.s w1 HB1.s).mono ?_;rintro _ w2 ⟨rfl,hb2⟩;have hz2:uR w1 w2:=hb2;have HB2:=uT (HB1.s.trans (hb2.mono HB1.s.size));clear hb2;go_wp2_with fail;have hz3:uR w1 (w2.alloc (.cells #[.int .i64 a,.int .i64 b] 3)):=hz2.alloc hz2.size _;refine(HCB'.s _ hz3 2 _ (Blk.new w2 _ _)).mono ?_;rintro _ w3 ⟨rfl,hb3⟩;have hz4:uR w1 w3:=hz3.trans (hb3.mono hz3.size);have HB3:=uT (HB1.s.trans (hz4.mono HB1.s.size));clear hb3 hz3;go_wp2_with fail;go_ret2;exact HFIN.s _ _ HB3.s HPX.s
theorem zTt:∀(l:List Ent) (p:Option Int),dO l p=true->(∀x∈l,gJ x=true)/\(∀q,p=some q->∀x∈l,q<x.key)/\l.Pairwise λx y=>x.key<y.key
 |[],p,_=>⟨by simp,by simp,List.Pairwise.nil⟩
 |e::l,p,h=>by
  unfold dO at h;simp only[qT]at h;obtain⟨h1,h2,h3⟩:=zTt l (some e.key) h.2;refine⟨λx hx=> ?_,λq hq x hx=> ?_,List.pairwise_cons.2 ⟨λx hx=>h2 _ rfl x hx,h3⟩⟩
  ·rcases jD.1 hx with rfl|hx
   ·exact h.1.1
   ·exact h1 x hx
  ·subst hq;have h4:=h.1.2;simp[above]at h4;rcases jD.1 hx with rfl|hx
   ·exact h4
   ·have:=h2 _ rfl x hx;omega
theorem zSr{l:List Ent}(h:bU l=true):(l.Pairwise λx y=>x.key<y.key)/\l.length<=8/\∀x∈l,(0<=x.key/\x.key<=1048576)/\(0<=x.value/\x.value<=1048576)/\(0<=x.time/\x.time<=1048576)/\(0<=x.who/\x.who<=7):=by unfold bU at h;simp only[qT,decide_eq_true_eq]at h;obtain⟨h1,_,h3⟩:=zTt l none h.1;refine⟨h3,h.2,λx hx=> ?_⟩;have:=h1 x hx;unfold gJ inP at this;simp at this;omega
theorem zUi{l:List Ent}(hm:bU l=true)(hb:dZ l=false):∀e∈l,zDb e/\e.key<=7:=λe he=>by have h1:=(zSr hm).2.2 e he;have h2:=List.any_eq_false.1 hb e he;simp only[Bool.or_eq_true,decide_eq_true_eq]at h2;exact⟨⟨by omega,h1.2.2.1,h1.2.2.2⟩,by omega⟩
theorem zOe(l:List Ent)(e:Ent)(x:Int)(h:∀y∈l,y.key<e.key):zBs (l++[e]) x=if x=e.key then some e else zBs l x:=by
 unfold zBs;rw[List.find?_append];by_cases hx:x=e.key
 ·rw[if_pos hx];have:l.find? (λy=>decide (y.key=x))=none:=by rw[List.find?_eq_none];intro y hy;have:=h y hy;simp;omega
  rw[this];simp[hx]
 ·rw[if_neg hx];have:[e].find? (λy=>decide (y.key=x))=none:=by simp;omega
  rw[this];simp
def arrK(l:List Ent):List Int:=(List.range 8).map λk:Nat=>((gH l k:Nat):Int)
theorem zQc(l:List Ent):(arrK l).length=8:=by simp[arrK]
theorem zQi(l:List Ent)(k:Nat)(hk:k<8):(arrK l)[k]? =some ((gH l k:Nat):Int):=by simp[arrK,hk]
theorem yHb(l:List Ent)(e:Ent)(k:Nat)(h:∀y∈l,y.key<e.key)(he:e.key=k)(hk:k<8):arrK (l++[e])=(arrK l).set k ((zAo e:Nat):Int):=by
 apply List.ext_getElem?;intro i;rw[List.getElem?_set,zQc];by_cases hi:i<8
 ·rw[zQi _ i hi]
  split
  ·rename_i h1;subst h1
   try rw[if_pos hk]
   unfold gH;rw[zOe l e _ h,if_pos he.symm]
  ·rename_i h1;rw[zQi l i hi];unfold gH;rw[zOe l e _ h,if_neg (by omega)]
 ·rw[qU (by rw[zQc];omega)]
  split
  ·omega
  ·rw[qU (by rw[zQc];omega)]
theorem zFb(l:List Ent):(slotsOf l).length=8:=by simp[slotsOf]
theorem zKb(l:List Ent)(k:Nat)(hk:k<8):(slotsOf l)[k]? =some (34,((gH l k:Nat):Int)):=by simp[slotsOf,hk]
theorem yBt{l:List Ent}(h:l.Pairwise λx y=>x.key<y.key)(k:Nat)(e:Ent)(he:l[k]? =some e):∀y∈l.take k,y.key<e.key:=λy hy=>by
 obtain⟨hk,rfl⟩:=qK.1 he;obtain⟨i,hi,rfl⟩:=List.mem_iff_getElem.1 hy;have hik:i<k:=by rw[qY]at hi;omega
 rw[List.getElem_take];exact List.pairwise_iff_getElem.1 h i k (by omega) hk hik
theorem zRk(rows:List (List Ent))(is:List Nat)(i:Nat):dS rows (is++[i])=dS rows is++slotsOf (rows.getD i []):=by unfold dS;rw[jN];simp
theorem zOf(rows:List (List Ent))(is:List Nat):(dS rows is).length=8*is.length:=by have:=congrArg List.length (zGk rows is);simpa using this
theorem yGe:∃i,prog.info? 179=some i/\i.zero=some (.agg #[.int .i64 0,.int .i64 0])/\i.size=2/\i.bytes=16:=gB (by kernel_rfl)
theorem yAf(c:Cfg)(a b:Nat)(t:TabR)(B:Nat)(w:World)(hc:c.ok w B)(ht:TabOk w B t)(hB:B<=w.heap.size)(hcf:bG c=true)(hab:cG c a=true/\cG c b=true)(hlen:t.es.length=c.la.zs.length)(hmay:t.es.any (λl=> !bU l)=false):Calls prog 81 #[c.val,.int .i64 a,.int .i64 b,t.val] w (zCa (bT c a b t.es) w):=by
 obtain⟨b1,b2,b3,b4⟩:=zFq hcf;have ha8:a<=8:=by have:=hab.1;unfold cG at this;simp at this;omega
 have hb8:b<=8:=by have:=hab.2;unfold cG at this;simp at this;omega
 have HRP:=uT (show bT c a b t.es=if(bM a b c.la.zs 0).any (λi=>dZ (t.es.getD i []))=true then([],12)else(bytesOf (bH (dS t.es (bM a b c.la.zs 0))) (34*(bM a b c.la.zs 0).length),0)by unfold bT;rw[if_neg (by rw[hcf];simp),if_neg (by rw[hab.1,hab.2];simp),if_neg (by rw[hlen];simp),if_neg (by rw[hmay];simp),qR,qR])
 have hisl:=zGa a b c.la.zs 0;have hism:=zCp a b c.la.zs 0;have HMY:=uT (λW (hW:uR w W)=>zCh c B W (hc.below (hW.mono hB)) (qN hB hW.size));rw[hcf]at HMY;have HBR:=uT (λ(W:World) (g:Nat) (hg:Blk W g 3 #[.int .i64 (a:Int),.int .i64 (b:Int)])=>zEg c (some ⟨g,0,none⟩) 2 2 [(a:Int),(b:Int)] W.heap.size W (by omega) rfl (by unfold maxLen;omega) (by have:=gQ (cs:=[.int .i64 (a:Int),.int .i64 (b:Int)]) hg hg.lt;simpa using this) (qA _));rw[show [(a:Int),(b:Int)].all (cG c)=true by simp[hab.1,hab.2]]at HBR;have HTC:=uT (λ(W:World) (hW:uR w W)=>zJm 106 (λr=> !bU r.es) t.A t.rs.length t.c t.rs W rfl ht.len ((ht.rd.below (hW.mono hB)).1.more (qN hB hW.size)) zMh λr W2 hr hW2=>(zRl r.A r.es.length r.c r.es W.heap.size W2 rfl (ht.each r hr) ((((ht.rd.below (hW.mono hB)).2 r hr).more (qN hB hW.size)).below hW2) hW2.size).mono λ_ _ ⟨he,hb⟩=>⟨he,hW2.trans (hb.mono hW2.size)⟩);rw[show t.rs.any (λr=> !bU r.es)=false by rw[<-hmay];unfold TabR.es;rw[List.any_map];rfl]at HTC;have HSH:=uT (λ(W:World) (hW:uR w W)=>zJx c a b B W (hc.below (hW.mono hB)) (qN hB hW.size) (by omega) (by omega) b3 b4);obtain⟨is,his⟩:=kB (bM a b c.la.zs 0);rw[<-his]at HRP HSH hisl hism;have hll:=hc.1.1;have hrl:t.rs.length=c.la.n:=by rw[<-hll,<-hlen];unfold TabR.es;rw[qQ]
 have HRT:=uT (ht.more hB);have HMAY:=uT (λr (hr:r∈t.rs)=>show bU r.es=true by
  have h1:∀l∈t.es,¬ (!bU l)=true:=by simpa using List.any_eq_false.1 hmay
  have:=h1 r.es (jC.2 ⟨r,hr,rfl⟩);simpa using this)
 have hq4:is.length<=4:=by omega
 have HISM:=uT (λi (hi:i∈is)=>show i<c.la.n by have:=hism i hi;omega);obtain⟨w1,hw1⟩:=kB (w.alloc (.cells c.cells.toArray 24));have hb1:=uH hw1;obtain⟨p,hp⟩:=kB w.heap.size;have kb:Blk w1 p 24 c.cells.toArray:=by rw[hw1,hp];exact Blk.new w _ _
 obtain⟨HB1,HW1,HP⟩:=uJ hb1 hw1 hp;have k0:=λ(W:World) (hz:uR w1 W)=>(kb.below hz kb.lt).cell 0
 have k1:=λ(W:World) (hz:uR w1 W)=>(kb.below hz kb.lt).cell 1
 have k2:=λ(W:World) (hz:uR w1 W)=>(kb.below hz kb.lt).cell 2
 have k3:=λ(W:World) (hz:uR w1 W)=>(kb.below hz kb.lt).cell 3
 have k4:=λ(W:World) (hz:uR w1 W)=>(kb.below hz kb.lt).cell 4
 have hz1:uR w1 w1:=qC _ _;obtain⟨iF,hiF,hzF,hsF,hyF⟩:=yGe;have hlm:=hc.1.2.2.1;unfold maxLen at hlm;have hrl4:t.rs.length<=4:=by rw[hrl];omega
 clear hb1 kb hp hw1 hc ht hcf hab hlen hmay b1 b2 b3 b4 his hisl hism;obtain⟨rs,tA,tc⟩:=t;obtain⟨br,⟨lA,ln,lc,ls⟩,tk,⟨mA,mn,mc,ms⟩,cap⟩:=c;unfold Cfg.cells at HW1 k0 k1 k2 k3 k4;unfold Cfg.val at HMY HBR HSH⊢;unfold TabR.val;dsimp only at HMY HBR HSH HTC HMAY HISM HW1 k0 k1 k2 k3 k4 hll hrl hlm hrl4⊢;simp only[jH,List.getElem?_cons_zero,jP]at k0 k1 k2 k3 k4;rw[hrl]at HTC hrl4;rw[hrl];have HRL:=uT hrl;clear hll hrl;go_enter func81,ntmps81;go_upto_region 1 with fail;rw[<-HP.s,<-HW1.s];go_wp2_with fail;refine(HMY.s w1 HB1.s).mono ?_;rintro _ w2 ⟨rfl,hb2⟩;have hz2:uR w1 w2:=hb2;clear hb2;go_wp2_with fail;have hz3:uR w1 (w2.alloc (.cells #[.int .i64 a,.int .i64 b] 3)):=hz2.alloc hz2.size _;refine(HBR.s _ _ (Blk.new w2 _ _)).mono ?_;rintro _ w3 ⟨rfl,hb3⟩;have hz4:uR w1 w3:=hz3.trans (hb3.mono hz3.size);have HB3:=uT (HB1.s.trans (hz4.mono HB1.s.size));clear hb3 hz3 hz2;go_wp2_with fail;refine(HTC.s _ HB3.s).mono ?_;rintro _ w4 ⟨rfl,hb4⟩;have hz5:uR w1 w4:=hz4.trans (hb4.mono hz4.size);have HB4:=uT (HB1.s.trans (hz5.mono HB1.s.size));clear hb4 hz4;go_wp2_with fail;refine(HSH.s _ HB4.s).mono ?_;rintro _ w5 ⟨v5,rfl,ho5,hb5⟩;obtain⟨A5,c5,rfl,_⟩:=bE ho5;have HO5:=uT (dU ho5 HB4.s.size);have hz6:uR w w5:=HB4.s.trans (hb5.mono HB4.s.size);obtain⟨q,hq⟩:=kB is.length;rw[<-hq]at HO5 hq4;have HQ:=uT hq.symm;rw[<-hq];clear ho5 hb5 hz5 k0 k1 k2 k3 k4 hz1 hq;go_wp2_with fail;have HEND:=uT (λ(W:World) (hW:uR w W) (h:is.any (λi=>dZ ((rs.map EnR.es).getD i []))=true)=>show zCa (bT ⟨br,⟨lA,ln,lc,ls⟩,tk,⟨mA,mn,mc,ms⟩,cap⟩ a b (TabR.es ⟨rs,tA,tc⟩)) w (.returned (.tuple #[.slice none 0 0,.int .i64 12])) W by rw[HRP.s,if_pos (show(is.any λi=>dZ ((TabR.es ⟨rs,tA,tc⟩).getD i []))=true from h)];exact⟨_,rfl,qH _ _ _ _,hW⟩)
 go_loopw [10,44] (λo j W=>∃(k:Nat),k<=q/\j= .int .i64 k/\uS (W.ownsRow w.heap.size 179 2 o (8*k) ((dS (rs.map EnR.es) (is.take k)).flatMap gL))/\uS (W.ownsRow w.heap.size 3 1 (.slice A5 q c5) q (is.map λi=>Value.int .i64 ((i:Nat):Int)))/\uS ((is.drop k).any (λi=>dZ ((rs.map EnR.es).getD i []))=is.any λi=>dZ ((rs.map EnR.es).getD i []))/\uR w W) (λ_ j _=>q-(intOf j).toNat)
 case atStart=>exact⟨0,qL _,rfl,qH _ _ _ _,HO5,rfl,hz6⟩
 case round=>
  obtain⟨k,hk,rfl,HF,HI,HBD,hz⟩:=hrel;by_cases hlt:k<q
  ·obtain⟨bi,oi,i,rfl,_,hi,hci⟩:=zCv (λi:Nat=>Value.int .i64 ((i:Nat):Int)) (Reads.of_own HI.s) hlt;have hiln:=HISM.s i (qB hi);obtain⟨bt,ot,r,hbt,_,hr,hcr⟩:=zCv EnR.val (HRT.s.below hz).rd.1 (by rw[HRL.s];exact hiln);dsimp only at hbt hr hcr;subst hbt;have hmr:=HMAY.s r (qB hr);have hrr:=(HRT.s.rd.2 r (qB hr));have hgd:(rs.map EnR.es).getD i []=r.es:=by rw[qG,qV,hr];rfl
   have HTK:=uT (dB is k i hi);have HDR:=uT (show(dZ r.es||(is.drop (k+1)).any λi=>dZ ((rs.map EnR.es).getD i []))=is.any (λi=>dZ ((rs.map EnR.es).getD i []))by have h:=HBD.s;rw[cZ is k i hi,List.any_cons,hgd]at h;exact h)
   obtain⟨hrs,hr8,hre⟩:=zSr hmr;have HSN:=uT (zRk (rs.map EnR.es) (is.take k) i);rw[hgd]at HSN;obtain⟨es,rA,rc⟩:=r;unfold EnR.val at hcr;dsimp only at hcr hmr hrr hrs hr8 hre HDR HSN;obtain⟨n,hn⟩:=kB es.length;rw[<-hn]at hcr hr8 hrr;obtain⟨HN,HRR,HSR,HRE⟩:=uK hn.symm hrr hrs hre;have hkq:(k:Int)<(q:Int):=by omega
   have hil:(i:Int)<(ln:Int):=by omega
   obtain⟨g,hg⟩:=kB wr.heap.size;obtain⟨w6,hw6⟩:=kB (wr.alloc (.cells #[.int .i64 0,.int .i64 0,.int .i64 0,.int .i64 0,.int .i64 0,.int .i64 0,.int .i64 0,.int .i64 0] 191));have hb6:=uH hw6;have kg:Blk w6 g 191 ((arrK []).map (Value.int .i64)).toArray:=by rw[hw6,hg];exact Blk.new _ _ _
   have hr6:w6.cell? ⟨bt,ot+i,none⟩=some (.slice rA n rc):=Ext.cell ⟨w6,hb6⟩ hcr;obtain⟨HG,HW6,HF6,HI6⟩:=uK hg hw6 (bI HF.s hb6) (bI HI.s hb6);have hz6':uR w w6:=hz.trans (hb6.mono hz.size);obtain⟨HKG,HGL⟩:=uI kg (show w.heap.size<=g by rw[hg];exact hz.size);clear hi hr hgd hmr hrr hrs hre hn hg hw6 hb6 kg HBD;go_upto_region 14 with fail;rw[<-HW6.s,<-HG.s];go_wp2_with fail
   go_loopw [53] (λj W=>∃(m:Nat),m<=n/\j= .int .i64 m/\uS (Blk W g 191 ((arrK (es.take m)).map (Value.int .i64)).toArray)/\uS (Only (λx=>x=g) w6 W)/\uS ((es.take m).any (λe=>decide (8<=e.key)||decide (255<e.value))=false)/\uR w W) (λj _=>n-(intOf j).toNat)
   case atStart=>exact⟨0,qL _,rfl,HKG,uT (Only.refl _ _),uT rfl,hz6'⟩
   case round=>
    obtain⟨m,hm,rfl,HK,HO,HNB,hzm⟩:=hrel;by_cases hmn:m<n
    ·obtain⟨be,oe,e,rfl,_,he,hce⟩:=fB cN (by omega) (HRR.s.below hzm) hmn HN.s;have z0:wr.cell? ⟨be,oe+m*5,none⟩=some (.int .i64 e.key):=hce 0 _ rfl;have z1:wr.cell? ⟨be,oe+m*5+1,none⟩=some (.int .i64 e.value):=hce 1 _ rfl;have z2:wr.cell? ⟨be,oe+m*5+2,none⟩=some (.int .i64 e.time):=hce 2 _ rfl;have z3:wr.cell? ⟨be,oe+m*5+3,none⟩=some (.int .i64 e.who):=hce 3 _ rfl;have z4:wr.cell? ⟨be,oe+m*5+4,none⟩=some (.bool e.gone):=hce 4 _ rfl;have hee:=HRE.s e (qB he);obtain⟨HTM,HST⟩:=uI (dB es m e he) (yBt HSR.s m e he);have hbe:(decide (8<=e.key)||decide (255<e.value))=true->dZ es=true:=λh=>by unfold dZ;rw[List.any_eq_true];exact⟨e,qB he,h⟩
     have HBE:=uT hbe;have hmn':(m:Int)<(n:Int):=by omega
     have hza:=uT (hzm.alloc hzm.size (.cells #[.int .i64 e.key,.int .i64 e.value,.int .i64 e.time,.int .i64 e.who,.bool e.gone] 125));clear hce he hbe;obtain⟨⟨e1,_⟩,⟨e2,_⟩,⟨e3,e4⟩,⟨e5,e6⟩⟩:=hee;obtain⟨ek,ev,et,ew,eg⟩:=e;dsimp only at z0 z1 z2 z3 z4 e1 e2 e3 e4 e5 e6 HTM HST HBE hza;by_cases d1:8<=ek
     ·have HR12:=uT (show dZ es=true from HBE.s (by simp[d1]));go_wp2_with fail;go_ret2;exact HEND.s _ hza.s (by rw[<-HDR.s,HR12.s];rfl)
     by_cases d2:255<ev
     ·have HR12:=uT (show dZ es=true from HBE.s (by simp[d2]));go_wp2_with fail;go_ret2;exact HEND.s _ hza.s (by rw[<-HDR.s,HR12.s];rfl)
     obtain⟨key,rfl⟩:=qP e1;have hk8:key<8:=by omega
     have hk8':(key:Int)<8:=by omega
     obtain⟨w7,hw7⟩:=kB (wr.alloc (.cells #[.int .i64 key,.int .i64 ev,.int .i64 et,.int .i64 ew,.bool eg] 125));have hb7:=uH hw7;obtain⟨pe,hpe⟩:=kB wr.heap.size;have ke:Blk w7 pe 125 #[.int .i64 key,.int .i64 ev,.int .i64 et,.int .i64 ew,.bool eg]:=by rw[hw7,hpe];exact Blk.new _ _ _
     have s0:=λn:Ext w7=>n.cell (v:= .int .i64 key) (ke.cell 0)
     have s1:=λn:Ext w7=>n.cell (v:= .int .i64 ev) (ke.cell 1)
     have s2:=λn:Ext w7=>n.cell (v:= .int .i64 et) (ke.cell 2)
     have s3:=λn:Ext w7=>n.cell (v:= .int .i64 ew) (ke.cell 3)
     have s4:=λn:Ext w7=>n.cell (v:= .bool eg) (ke.cell 4)
     have HSL:=uT (λW=>zVv ⟨key,ev,et,ew,eg⟩ W ⟨by dsimp only;omega,by dsimp only;omega,by dsimp only;omega⟩);unfold zCe at HSL;dsimp only at HSL;have HSET:=uT (show arrK (es.take (m+1))=(arrK (es.take m)).set key ((zAo ⟨key,ev,et,ew,eg⟩:Nat):Int)by rw[HTM.s];exact yHb (es.take m) ⟨key,ev,et,ew,eg⟩ key HST.s rfl hk8)
     have HNB2:=uT (show(es.take (m+1)).any (λe=>decide (8<=e.key)||decide (255<e.value))=false by rw[HTM.s,List.any_append,HNB.s];simp;omega)
     generalize zAo ⟨key,ev,et,ew,eg⟩=sv at*;obtain⟨HW7,HPE,HB7⟩:=uJ hw7 hpe hb7;clear hw7 hpe hb7 ke HST HBE hza HNB;have d3:decide (8<=key)=false:=by simp;omega
     have d4:decide (255<ev)=false:=by simp;omega
     go_upto_region 19 with fail;rw[<-HW7.s,<-HPE.s];clear z0 z1 z2 z3 z4;refine gF 5 (by kernel_rfl) (by kernel_rfl) ?_;simp only[qX,jE,qZ,jL]
     repeat(go_big_quiet_step ((go_at_call 109;exact fT (HSL.s _))))
     refine qF ?_;rintro W ⟨nq,hW⟩;have hWB:uR wr W:=HB7.s.trans ((hW▸nq.h:uR w7 W).mono HB7.s.size);clear hW nq s0 s1 s2 s3 s4;have kW:=HK.s.below hWB HK.s.lt;have hfg:=kW.frozen key;have hcg:W.cell? ⟨g,key,none⟩=some (.int .i64 (gH (es.take m) ((key:Nat):Int):Nat)):=by rw[kW.cell key];simp[zQi _ key hk8]
     obtain⟨HKW,HWB⟩:=uI kW hWB;clear kW hWB;go_wp2_with fail;go_roundw
     case rel=>exact⟨m+1,by omega,by go_num,uT (by have h:=HKW.s.set_ key (.int .i64 sv);rw[HSET.s,List.map_set];simpa using h),uT (bJ (HO.s.calm HWB.s) _ _),HNB2,(hzm.trans (HWB.s.mono hzm.size)).setCell (by exact HGL.s) _⟩
     case measure=>simp[intOf];omega
    ·obtain rfl:m=n:=by omega
     rw[qS (by rw[HN.s];exact qA _)]at HK HNB;have a0:wr.cell? ⟨g,0,none⟩=some (.int .i64 (gH es ((0:Nat):Int):Nat)):=HK.s.cell 0;have a1:wr.cell? ⟨g,1,none⟩=some (.int .i64 (gH es ((1:Nat):Int):Nat)):=HK.s.cell 1;have a2:wr.cell? ⟨g,2,none⟩=some (.int .i64 (gH es ((2:Nat):Int):Nat)):=HK.s.cell 2;have a3:wr.cell? ⟨g,3,none⟩=some (.int .i64 (gH es ((3:Nat):Int):Nat)):=HK.s.cell 3;have a4:wr.cell? ⟨g,4,none⟩=some (.int .i64 (gH es ((4:Nat):Int):Nat)):=HK.s.cell 4;have a5:wr.cell? ⟨g,5,none⟩=some (.int .i64 (gH es ((5:Nat):Int):Nat)):=HK.s.cell 5;have a6:wr.cell? ⟨g,6,none⟩=some (.int .i64 (gH es ((6:Nat):Int):Nat)):=HK.s.cell 6;have a7:wr.cell? ⟨g,7,none⟩=some (.int .i64 (gH es ((7:Nat):Int):Nat)):=HK.s.cell 7;obtain⟨HSG,HF8,HI8⟩:=uJ (λ(k:Nat) (hk:k<8)=>zKb es k hk) (bL HF6.s HO.s λx hx e=>bC HF6.s HKG.s (by decide) (by rw[hx,e])) (bL HI6.s HO.s λx hx e=>bC HI6.s HKG.s (by decide) (by rw[hx,e]));obtain⟨sv,hsv⟩:∃sv:Nat->Nat,sv=λk=>gH es ((k:Nat):Int):=⟨_,rfl⟩
     have hsv':∀k:Nat,gH es ((k:Nat):Int)=sv k:=λk=>by rw[hsv]
     rw[hsv']at a0 a1 a2 a3 a4 a5 a6 a7;simp only[hsv']at HSG;clear hsv hsv';have HIX:=uT (show∀x:Nat,x<8->∀W:World,(Instr.index 191 (.agg #[.int .i64 (sv 0:Nat),.int .i64 (sv 1:Nat),.int .i64 (sv 2:Nat),.int .i64 (sv 3:Nat),.int .i64 (sv 4:Nat),.int .i64 (sv 5:Nat),.int .i64 (sv 6:Nat),.int .i64 (sv 7:Nat)]) (.int .i64 (x:Int))).run prog W= .ok (.int .i64 (sv x:Nat)) W from λx hx W=>by rcases(show x=0\/x=1\/x=2\/x=3\/x=4\/x=5\/x=6\/x=7 by omega)with rfl|rfl|rfl|rfl|rfl|rfl|rfl|rfl<;>kernel_rfl)
     go_wp2_with fail
     go_loopw [10,72] (λo j W=>∃(x:Nat),x<=8/\j= .int .i64 x/\uS (W.ownsRow w.heap.size 179 2 o (8*k+x) ((dS (rs.map EnR.es) (is.take k)++(slotsOf es).take x).flatMap gL))/\uS (W.ownsRow w.heap.size 3 1 (.slice (some ⟨bi,oi,none⟩) q c5) q (is.map λi=>Value.int .i64 ((i:Nat):Int)))/\uR w W) (λ_ j _=>8-(intOf j).toNat)
     case atStart=>exact⟨0,qL _,rfl,uT (by rw[jE,jR];exact HF8.s),HI8,hzm⟩
     case round=>
      obtain⟨x,hx,rfl,HFx,HIx,hzx⟩:=hrel;by_cases hx8:x<8
      ·have HSX:=uT (dB (slotsOf es) x _ (HSG.s x hx8));obtain⟨AF,cF,rfl,_⟩:=bE HFx.s;have hmq:(8*k+x+1)*16<=140737488355328:=by omega
       have hsx:=hzx.size;have hix:=HIX.s x hx8;have hx8':(x:Int)<8:=by omega
       go_wp2_with(first
        |(at_builtin;(refine bF _ rfl (.tmp 75) (.tmp 78) _ rfl w.heap.size 179 iF _ 2 16 underlying177 hiF hzF hsF hyF rfl (by omega) (by omega) _ _ _ HFx.s rfl _ 1 _ rfl rfl rfl (by simp[Value.oneCell']) hmq hsx ?_);intro g7 cap7 w7 hg7 hown7 hbel7 hgr7 hat7;have HB7:=uT (hbel7 w.heap.size w (qA _) hzx);have HI7:=uT (fP HIx.s HFx.s (by decide) hgr7);have HO7:=uT hown7;clear hg7 hown7 hbel7 hgr7 hat7))
       go_roundw
       case rel=>exact⟨x+1,by omega,by go_num,uT (by have h:=HO7.s;rw[HSX.s,<-jK,jN];exact h),HI7,HB7.s⟩
       case measure=>simp[intOf];omega
      ·obtain rfl:x=8:=by omega
       have HFE:=uT (show wr.ownsRow w.heap.size 179 2 u10 (8*(k+1)) ((dS (rs.map EnR.es) (is.take (k+1))).flatMap gL)by have h:=HFx.s;rw[show(slotsOf es).take 8=slotsOf es from qS (by rw[zFb];exact qA _)]at h;rw[HTK.s,HSN.s];exact h)
       have HDR2:=uT (show(is.drop (k+1)).any (λi=>dZ ((rs.map EnR.es).getD i []))=is.any (λi=>dZ ((rs.map EnR.es).getD i []))by have h:=HDR.s;have h2:dZ es=false:=HNB.s;rw[h2,Bool.false_or]at h;exact h)
       go_wp2_with fail;go_roundw
       case rel=>exact⟨k+1,by omega,by go_num,HFE,HIx,HDR2,hzx⟩
       case measure=>simp[intOf];omega
  ·obtain rfl:k=q:=by omega
   have hF:=HF.s;rw[qS (by rw[HQ.s];exact qA _)]at hF;have hnb:is.any (λi=>dZ ((rs.map EnR.es).getD i []))=false:=by have h:=HBD.s;rw[qW (by rw[HQ.s];exact qA _)]at h;exact h.symm
   obtain⟨AF,cF,rfl,_⟩:=bE hF;have hlen:(dS (rs.map EnR.es) is).length=8*k:=by rw[zOf,HQ.s]
   have hpk:=rum_pack (rs.map EnR.es) is (by rw[HQ.s];exact hq4) (λi hi e he=>by
    have hb:=List.any_eq_false.1 hnb i hi;have hlt2:=HISM.s i hi;have hr:rs[i]? =some (rs[i]'(by rw[HRL.s];exact hlt2)):=qI _;generalize rs[i]'(by rw[HRL.s];exact hlt2)=r at hr;have hgd:(rs.map EnR.es).getD i []=r.es:=by rw[qG,qV,hr];rfl
    rw[hgd]at hb he;exact(zUi (HMAY.s r (qB hr)) (by simpa using hb) e he).1)
   have HPK:=uT (zNl AF (8*k) cF (dS (rs.map EnR.es) is) wr hlen (by omega) (Reads.of_own hF));have HR:=uT (show bT ⟨br,⟨lA,ln,lc,ls⟩,tk,⟨mA,mn,mc,ms⟩,cap⟩ a b (TabR.es ⟨rs,tA,tc⟩)=gM (dS (rs.map EnR.es) is)by rw[HRP.s,if_neg (show ¬ (is.any λi=>dZ ((TabR.es ⟨rs,tA,tc⟩).getD i []))=true by rw[show(is.any λi=>dZ ((TabR.es ⟨rs,tA,tc⟩).getD i []))=false from hnb];simp),hpk];rfl)
   have HZ:=uT hz;clear hF hnb hlen hpk hz HF HBD;go_wp2_with fail;refine HPK.s.mono ?_;rintro _ w7 ⟨v7,rfl,ho7,hb7⟩;obtain⟨HO7,HB7⟩:=uI (dU ho7 HZ.s.size) (HZ.s.trans (hb7.mono HZ.s.size));clear ho7 hb7;go_wp2_with fail;go_ret2;unfold zCa;rw[HR.s];exact⟨_,rfl,HO7.s,HB7.s⟩
theorem yCw(c:Cfg)(a b:Int)(t:TabR)(B:Nat)(w:World)(hc:c.ok w B)(ht:TabOk w B t)(hB:B<=w.heap.size):Calls prog 81 #[c.val,.int .i64 a,.int .i64 b,t.val] w (zCa (bT c a b t.es) w):=by
 by_cases h:bG c=true/\(cG c a=true/\cG c b=true)/\t.es.length=c.la.zs.length/\t.es.any (λl=> !bU l)=false
 ·obtain⟨h1,h2,h3,h4⟩:=h;have ha:0<=a:=by have:=h2.1;unfold cG at this;simp at this;omega
  have hb:0<=b:=by have:=h2.2;unfold cG at this;simp at this;omega
  obtain⟨a,rfl⟩:=qP ha;obtain⟨b,rfl⟩:=qP hb;exact yAf c a b t B w hc ht hB h1 h2 h3 h4
 ·exact zYf c a b t B w hc ht hB h
theorem yFv(e:Ent)(l:List Ent)(x:Int):zBs (e::l) x=if e.key=x then some e else zBs l x:=by unfold zBs;rw[List.find?_cons];by_cases h:e.key=x<;>simp[h]
theorem zUy{w:World}{g:Nat}{t:TypeId}{cs:List Value}(h:Blk w g t cs.toArray)(size n:Nat)(hs:cs.length=n*size):Reads w w.heap.size size (some ⟨g,0,none⟩) n cs:=by
 refine⟨hs,λ_=>⟨⟨g,0,none⟩,rfl,h.lt,λj u hj=> ?_⟩⟩;have e:(⟨g,0,none⟩:Addr).add j=⟨g,j,none⟩:=by unfold Addr.add;split<;>simp_all
 rw[e,h.cell j];simpa using hj
theorem zTa(A:Option Addr)(n c:Nat)(l:List Ent)(k:Nat)(B:Nat)(w:World)(hl:l.length=n)(hm:n<=maxLen)(hr:Reads w B 5 A n (l.flatMap bD))(hB:B<=w.heap.size):Calls prog 95 #[.slice A n c,.int .i64 k] w λe w'=>∃g c',e= .returned (.slice (some ⟨g,0,none⟩) (zCq l k).length c')/\Blk w' g 179 ((zCq l k).flatMap gL).toArray/\w.heap.size<=g/\uR w w':=by
 unfold maxLen at hm;obtain⟨HR,HL⟩:=uI (hr.more hB) hl;clear hl hr;go_enter func95,ntmps95;go_wp2_with fail
 go_loopw [10] (λj wr=>∃(i:Nat),i<=n/\j= .int .i64 i/\uS (zBs (l.drop i) k=zBs l k)/\uR w wr) (λj _=>n-(intOf j).toNat)
 case atStart=>exact⟨0,qL _,rfl,rfl,qC _ _⟩
 case round=>
  obtain⟨i,hi,rfl,HK,hz⟩:=hrel;by_cases hlt:i<n
  ·obtain⟨be,oe,e,rfl,_,he,hce⟩:=fB cN (by omega) (HR.s.below hz) hlt HL.s;have z0:wr.cell? ⟨be,oe+i*5,none⟩=some (.int .i64 e.key):=hce 0 _ rfl;have z1:wr.cell? ⟨be,oe+i*5+1,none⟩=some (.int .i64 e.value):=hce 1 _ rfl;have z2:wr.cell? ⟨be,oe+i*5+2,none⟩=some (.int .i64 e.time):=hce 2 _ rfl;have z3:wr.cell? ⟨be,oe+i*5+3,none⟩=some (.int .i64 e.who):=hce 3 _ rfl;have z4:wr.cell? ⟨be,oe+i*5+4,none⟩=some (.bool e.gone):=hce 4 _ rfl;have HK2:=uT (show(if e.key=k then some e else zBs (l.drop (i+1)) k)=zBs l k by have h:=HK.s;rw[cZ l i e he,yFv]at h;exact h);have hza:uR w (wr.alloc (.cells #[.int .i64 e.key,.int .i64 e.value,.int .i64 e.time,.int .i64 e.who,.bool e.gone] 125)):=hz.alloc hz.size _;have HZA:=uT hza;clear HK he hce hza;by_cases hk:e.key=k
   ·have hk':(e.key==(k:Int))=true:=by simpa using hk
    have HE:=uT (show zBs l k=some e by have h:=HK2.s;rw[if_pos hk]at h;exact h.symm);clear HK2 hk;have HG:=uT (show zCq l k=[(1,1),(1,(zCu e:Int)),(8,e.value),(21,e.time),(3,e.who)]by unfold zCq;rw[HE.s]);obtain⟨ek,ev,et,ew,eg⟩:=e;dsimp only at z0 z1 z2 z3 z4 hk' HZA HG;cases eg
    ·go_wp2_with fail;go_ret;rw[HG.s];refine⟨_,_,rfl,?_,by have:=HZA.s.size;simp at this⊢;omega,HZA.s.alloc HZA.s.size _⟩;show Blk _ _ _ ([(1,1),(1,0),(8,ev),(21,et),(3,ew)].flatMap gL).toArray;have h:=Blk.new (wr.alloc (.cells #[.int .i64 ek,.int .i64 ev,.int .i64 et,.int .i64 ew,.bool false] 125)) 179 #[.int .i64 1,.int .i64 1,.int .i64 1,.int .i64 0,.int .i64 8,.int .i64 ev,.int .i64 21,.int .i64 et,.int .i64 3,.int .i64 ew];simpa[gL]using h
    ·go_wp2_with fail;go_ret;rw[HG.s];refine⟨_,_,rfl,?_,by have:=HZA.s.size;simp at this⊢;omega,HZA.s.alloc HZA.s.size _⟩;show Blk _ _ _ ([(1,1),(1,1),(8,ev),(21,et),(3,ew)].flatMap gL).toArray;have h:=Blk.new (wr.alloc (.cells #[.int .i64 ek,.int .i64 ev,.int .i64 et,.int .i64 ew,.bool true] 125)) 179 #[.int .i64 1,.int .i64 1,.int .i64 1,.int .i64 1,.int .i64 8,.int .i64 ev,.int .i64 21,.int .i64 et,.int .i64 3,.int .i64 ew];simpa[gL]using h
   ·have hk':(e.key==(k:Int))=false:=by simpa using hk
    have HK3:=uT (show zBs (l.drop (i+1)) k=zBs l k by have h:=HK2.s;rw[if_neg hk]at h;exact h);clear HK2 hk;go_wp2_with fail;go_roundw
    case rel=>exact⟨i+1,by omega,by go_num,HK3,HZA.s⟩
    case measure=>simp[intOf];omega
  ·obtain rfl:i=n:=by omega
   have HG:=uT (show zCq l k=[(34,0)]by have h:=HK.s;rw[qW (by rw[HL.s];exact qA _)]at h;unfold zCq;rw[<-h];rfl)
   clear HK;go_wp2_with fail;go_ret;rw[HG.s];exact⟨_,_,rfl,Blk.new _ 179 ([(34,0)].flatMap gL).toArray,hz.size,hz.alloc hz.size _⟩
theorem zXj{w:World}{base g n c:Nat}{e:TypeId}{xs:List Value}(h:w.ownsRow base e 1 (.slice (some ⟨g,0,none⟩) n c) n xs)(i:Nat)(u:Value)(hi:i<n):(w.setCell ⟨g,i,none⟩ u).ownsRow base e 1 (.slice (some ⟨g,0,none⟩) n c) n (xs.set i u):=by
 rcases h.2 with⟨h1,_⟩|⟨g',cap,cur,h1,hb,hh,hnc,hcm,hs,ht⟩
 ·simp at h1
 injection h1 with h1 _ h2;injection h1 with h1;injection h1 with h1;subst h1 h2;have hk:Blk w g e cur:=hh;refine⟨by rw[List.length_set];exact h.1,.inr ⟨g,c,cur.setIfInBounds i u,rfl,hb,hk.set_ i u,hnc,hcm,by simpa using hs,?_⟩⟩;rw[Array.toList_setIfInBounds,List.take_set,ht]
theorem zKa(a b:Nat):∀(ls:List Int) (z:Int) (i:Nat),bM a b (ls++[z]) i=bM a b ls i++(if z.toNat.testBit a&&z.toNat.testBit b then [i+ls.length]else [])
 |[],z,i=>by unfold bM;simp[bM]
 |y::ls,z,i=>by
  rw[List.cons_append,bM,zKa a b ls z (i+1),bM];have e:i+1+ls.length=i+(y::ls).length:=by simp;omega
  rw[e]
  split<;>simp
theorem zHw(a b:Nat):∀(x y:List Int) (i:Nat),bM a b (x++y) i=bM a b x i++bM a b y (i+x.length)
 |[],y,i=>by simp[bM]
 |z::x,y,i=>by
  rw[List.cons_append,bM,zHw a b x y (i+1),bM];have e:i+1+x.length=i+(z::x).length:=by simp;omega
  rw[e]
  split<;>simp
theorem zHn(v j:Nat)(w:World)(hv:v<=255)(hj:j<=62):Calls prog 45 #[.int .i64 v,.int .i64 j] w λe w'=>e= .returned (.bool (v.testBit j))/\w=w':=by have hbit:=bit_i64 v j hv;clear hv;go_enter func45,ntmps45;go_wp2_with fail;go_ret;exact⟨rfl,rfl⟩
theorem zGz(x y:List (Int×Int)):bH (x++y)=bH x++bH y:=by unfold bH;rw[jN]
theorem zPf(f:Int×Int):bH [f]=cT f:=by unfold bH;simp
theorem yEh{l:List Ent}(h:∀e∈l,zDb e)(x:Nat)(hx:x<8):bH ((slotsOf l).take (x+1))=bH ((slotsOf l).take x)++bH (zCq l x):=by rw[dB (slotsOf l) x _ (zKb l x hx),zGz,zPf,zRs h]
theorem zQq(c:Cfg)(a b:Int)(t:TabR)(B:Nat)(w:World)(hc:c.ok w B)(ht:TabOk w B t)(hB:B<=w.heap.size)(hbad:¬ (bG c=true/\(cG c a=true/\cG c b=true)/\t.es.length=c.la.zs.length)):Calls prog 70 #[c.val,.int .i64 a,.int .i64 b,t.val] w (zCa (bT c a b t.es) w):=by
 have hfin:∀(x:Int) W,uR w W->bT c a b t.es=([],x)->zCa (bT c a b t.es) w (.returned (.tuple #[.slice none 0 0,.int .i64 x])) W:=λx W hW hp=>by rw[hp];exact⟨_,rfl,qH _ _ _ _,hW⟩
 obtain⟨HFIN,HMY⟩:=uI hfin (λW (hW:uR w W)=>zBr c B W (hc.below (hW.mono hB)) (qN hB hW.size));have hll:=hc.1.1;have hlm:=hc.1.2.2.1;have htl:t.es.length=t.rs.length:=by unfold TabR.es;rw[qQ]
 have hbnd:=ht.len;unfold maxLen at hbnd hlm;have hP1:bG c=false->bT c a b t.es=([],4):=λh=>by unfold bT;rw[if_pos h]
 have hP2:bG c=true->(cG c a=false\/cG c b=false)->bT c a b t.es=([],2):=λh h2=>by unfold bT;rw[if_neg (by rw[h];simp),if_pos h2]
 have hP3:bG c=true->(cG c a=true/\cG c b=true)->t.es.length≠c.la.zs.length->bT c a b t.es=([],1):=λh h2 h3=>by unfold bT;rw[if_neg (by rw[h];simp),if_neg (by rw[h2.1,h2.2];simp),if_pos h3]
 generalize bT c a b t.es=R at*;obtain⟨HP1,HP2,HP3,HBA,HTL⟩:=uL hP1 hP2 hP3 hbad htl;obtain⟨w1,hw1⟩:=kB (w.alloc (.cells c.cells.toArray 24));have hb1:=uH hw1;obtain⟨p,hp⟩:=kB w.heap.size;have kb:Blk w1 p 24 c.cells.toArray:=by rw[hw1,hp];exact Blk.new w _ _
 obtain⟨HB1,HW1,HP⟩:=uJ hb1 hw1 hp;have k0:=λ(W:World) (hz:uR w1 W)=>(kb.below hz kb.lt).cell 0
 have k1:=λ(W:World) (hz:uR w1 W)=>(kb.below hz kb.lt).cell 1
 have k2:=λ(W:World) (hz:uR w1 W)=>(kb.below hz kb.lt).cell 2
 have k3:=λ(W:World) (hz:uR w1 W)=>(kb.below hz kb.lt).cell 3
 have k4:=λ(W:World) (hz:uR w1 W)=>(kb.below hz kb.lt).cell 4
 have hz1:uR w1 w1:=qC _ _;clear hb1 kb hp hw1 hc ht hfin hP1 hP2 hP3 hbad htl;obtain⟨rs,tA,tc⟩:=t;obtain⟨br,⟨lA,ln,lc,ls⟩,tk,⟨mA,mn,mc,ms⟩,cap⟩:=c;unfold Cfg.cells at HW1 k0 k1 k2 k3 k4;unfold Cfg.val at HMY⊢;unfold TabR.val;unfold cG at HP2 HP3 HBA;dsimp only at HMY HW1 HTL HP2 HP3 HBA k0 k1 k2 k3 k4 hll hlm hbnd⊢;simp only[jH,List.getElem?_cons_zero,jP]at k0 k1 k2 k3 k4;have HLL:=uT hll;clear hll;cases hcf:bG ⟨br,⟨lA,ln,lc,ls⟩,tk,⟨mA,mn,mc,ms⟩,cap⟩
 ·rw[hcf]at HMY HP1;clear hcf;go_enter func70,ntmps70;go_upto_region 1 with fail;rw[<-HP.s,<-HW1.s];go_wp2_with fail;refine(HMY.s w1 HB1.s).mono ?_;rintro _ w2 ⟨rfl,hb2⟩;have HB2:=uT (HB1.s.trans (hb2.mono HB1.s.size));clear hb2;go_wp2_with fail;go_ret2;exact HFIN.s _ _ HB2.s (HP1.s trivial)
 rw[hcf]at HMY HP2 HP3;have HBA2:=uT (λh=>HBA.s ⟨hcf,h⟩);clear hcf HBA;by_cases d1:a<0
 ·have HPX:=uT (HP2.s rfl (Or.inl (by simp;omega)));clear HP2 HP3 HBA2;go_enter func70,ntmps70;go_upto_region 1 with fail;rw[<-HP.s,<-HW1.s];go_wp2_with fail;refine(HMY.s w1 HB1.s).mono ?_;rintro _ w2 ⟨rfl,hb2⟩;have hz2:uR w1 w2:=hb2;have HB2:=uT (HB1.s.trans (hb2.mono HB1.s.size));clear hb2;go_wp2_with fail;go_ret2;exact HFIN.s _ _ HB2.s HPX.s
 by_cases d2:br<=a
 ·have HPX:=uT (HP2.s rfl (Or.inl (by simp;omega)));clear HP2 HP3 HBA2;go_enter func70,ntmps70;go_upto_region 1 with fail;rw[<-HP.s,<-HW1.s];go_wp2_with fail;refine(HMY.s w1 HB1.s).mono ?_;rintro _ w2 ⟨rfl,hb2⟩;have hz2:uR w1 w2:=hb2;have HB2:=uT (HB1.s.trans (hb2.mono HB1.s.size));clear hb2;go_wp2_with fail;go_ret2;exact HFIN.s _ _ HB2.s HPX.s
 by_cases d3:b<0
 ·have HPX:=uT (HP2.s rfl (Or.inr (by simp;omega)));clear HP2 HP3 HBA2;go_enter func70,ntmps70;go_upto_region 1 with fail;rw[<-HP.s,<-HW1.s];go_wp2_with fail;refine(HMY.s w1 HB1.s).mono ?_;rintro _ w2 ⟨rfl,hb2⟩;have hz2:uR w1 w2:=hb2;have HB2:=uT (HB1.s.trans (hb2.mono HB1.s.size));clear hb2;go_wp2_with fail;go_ret2;exact HFIN.s _ _ HB2.s HPX.s
 by_cases d4:br<=b
 ·have HPX:=uT (HP2.s rfl (Or.inr (by simp;omega)));clear HP2 HP3 HBA2;go_enter func70,ntmps70;go_upto_region 1 with fail;rw[<-HP.s,<-HW1.s];go_wp2_with fail;refine(HMY.s w1 HB1.s).mono ?_;rintro _ w2 ⟨rfl,hb2⟩;have hz2:uR w1 w2:=hb2;have HB2:=uT (HB1.s.trans (hb2.mono HB1.s.size));clear hb2;go_wp2_with fail;go_ret2;exact HFIN.s _ _ HB2.s HPX.s
 have hab:((decide (0<=a)&&decide (a<br))=true/\(decide (0<=b)&&decide (b<br))=true):=by simp;omega
 have hn:¬ rs.length=ln:=λh=>HBA2.s ⟨hab,by rw[HTL.s,HLL.s];exact h⟩
 have HPX:=uT (HP3.s rfl hab (by rw[HTL.s,HLL.s];exact hn));have e2:(rs.length !=ln)=true:=by simpa using hn
 have e3:(((rs.length:Nat):Int) !=(ln:Nat))=true:=by simp;omega
 clear HP2 HP3 HBA2 hab hn HTL HLL;generalize rs.length=q at*;go_enter func70,ntmps70;go_upto_region 1 with fail;rw[<-HP.s,<-HW1.s];go_wp2_with fail;refine(HMY.s w1 HB1.s).mono ?_;rintro _ w2 ⟨rfl,hb2⟩;have hz2:uR w1 w2:=hb2;have HB2:=uT (HB1.s.trans (hb2.mono HB1.s.size));clear hb2;go_wp2_with fail;go_ret2;exact HFIN.s _ _ HB2.s HPX.s
end Go.Proofs.YtbolcebmbpepdaaGreatDoor
