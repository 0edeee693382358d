/- Contracts. Conditions: those each states. -/
import Derived.Test.YtbolcebmbpepdaaGreatDoorM15
import Derived.Test.YtbolcebmbpepdaaGreatDoorM08
namespace Go.Proofs.YtbolcebmbpepdaaGreatDoor
set_option maxRecDepth 100000
set_option maxHeartbeats 8000000
set_option linter.all false
open Go.RowKit Tryz
theorem zSq(n k:Nat)(hn:n<9223372036854775808)(hk:k<=62):bits .and .i64 (n:Int) ((2^k-1:Nat):Int)=((n%2^k:Nat):Int):=by have hp:(2:Nat)^k<=2^62:=Nat.pow_le_pow_right (by omega) hk;rw[zBz _ _ hn (by omega),Nat.and_two_pow_sub_one_eq_mod]
theorem zTd(key n:Nat)(w:World)(hk:key<=1000)(hn:n<17179869184):Calls prog 114 #[.int .i64 key,.int .i64 n] w λe w'=>e= .returned (.tuple #[zCe (zAq key n),.bool (decide (1<=n/4294967296))])/\uR w w':=by
 have h7:bits .and .i64 (n:Int) 7=((n%8:Nat):Int):=zSq n 3 (by omega) (by omega);have h21:bits .and .i64 ((n:Int)/8) 2097151=((n/8%2097152:Nat):Int):=by have:=zSq (n/8) 21 (by omega) (by omega);rw[show((n:Int)/8)=((n/8:Nat):Int)by omega];exact this
 have h8:bits .and .i64 ((n:Int)/8/2097152) 255=((n/16777216%256:Nat):Int):=by have:=zSq (n/16777216) 8 (by omega) (by omega);rw[show((n:Int)/8/2097152)=((n/16777216:Nat):Int)by omega];exact this
 have hg:(((n:Int)/8/2097152/256)==3)=decide (n/4294967296=3):=by rw[Bool.eq_iff_iff];simp;omega
 have hp:decide ((0:Int)<(n:Int)/8/2097152/256)=decide (1<=n/4294967296):=by rw[Bool.eq_iff_iff];simp;omega
 obtain⟨HB,H7,H21,H8,HG,HP⟩:=uM (λcs=>show uR w (w.alloc (.cells cs 125))from(qC _ _).alloc (qA _) _) h7 h21 h8 hg hp;clear h7 h21 h8 hg hp;go_enter func114,ntmps114;go_wp2_with fail;refine bodyPost_ret (v:= .tuple #[.agg #[.int .i64 key,.int .i64 (bits .and .i64 ((n:Int)/8/2097152) 255),.int .i64 (bits .and .i64 ((n:Int)/8) 2097151),.int .i64 (bits .and .i64 (n:Int) 7),.bool (((n:Int)/8/2097152/256)==3)],.bool (decide ((0:Int)<(n:Int)/8/2097152/256))]) (by simp[results,Tryz.results114,go_sem]) rfl ⟨?_,HB.s _⟩;rw[H7.s,H21.s,H8.s,HG.s,HP.s];rfl
structure OTb(w:World)(base g:Nat)(S:List EnR):Prop where
 blk:Blk w g 103 (S.map EnR.val).toArray
 rows:∀r∈S,w.ownsRow base 125 5 r.val r.es.length (r.es.flatMap bD)
 apart:∀(i j:Nat) (ri rj:EnR),S[i]? =some ri->S[j]? =some rj->i≠j->ri.val.ownBlock=none\/ri.val.ownBlock≠rj.val.ownBlock
 low:base<=g
section
variable {w w':World}{base g:Nat}{S:List EnR}
theorem OTb.only{D:Nat->Prop}(h:OTb w base g S)(ho:Only D w w')(h1:¬ D g)(h2:∀r∈S,∀k,r.val.ownBlock=some k->¬ D k):OTb w' base g S:=
 ⟨h.blk.only ho h1,λr hr=>bL (h.rows r hr) ho (h2 r hr),h.apart,h.low⟩
theorem OTb.calm(h:OTb w base g S)(hb:uR w w'):OTb w' base g S:=
 h.only (D:=λ_=>False) (Only.of_below hb λx h1 h2=>by omega) (λe=>e) (λ_ _ _ _ e=>e)
theorem OTb.cell(h:OTb w base g S){i:Nat}{r:EnR}(hi:S[i]? =some r):w.cell? ⟨g,i,none⟩=some r.val:=by rw[h.blk.cell i];simp[hi]
theorem OTb.push(h:OTb w base g S){i:Nat}{r r':EnR}(hi:S[i]? =some r)(hg:w.grownBy w' r.val.ownBlock)(ho:w'.ownsRow base 125 5 r'.val r'.es.length (r'.es.flatMap bD))(hat:r'.val.ownBlock=r.val.ownBlock\/∃k,r'.val.ownBlock=some k/\w.heap.size<=k):OTb (w'.setCell ⟨g,i,none⟩ r'.val) base g (S.set i r'):=by
 have h1:Only (λk=>r.val.ownBlock=some k) w w':=(Only.refl _ _).grown hg (λg hg _=>hg);have h2:Only (λk=>k=g) w' (w'.setCell ⟨g,i,none⟩ r'.val):=bJ (Only.refl _ _) _ _;have hrr:=h.rows r (qB hi);have hb1:=h.blk.only h1 (λe=>bC hrr h.blk (by decide) e);have hother:∀(j:Nat) (rj:EnR),S[j]? =some rj->i≠j->(w'.setCell ⟨g,i,none⟩ r'.val).ownsRow base 125 5 rj.val rj.es.length (rj.es.flatMap bD):=λj rj hj hij=>by
  have hrj:=h.rows rj (qB hj);refine bL (bL hrj h1 λk hk hd=> ?_) h2 λk hk e=> ?_
  ·rcases h.apart i j r rj hi hj hij with e|e
   ·rw[e]at hd;cases hd
   ·exact e (by rw[hd,hk])
  ·exact bC hrj h.blk (by decide) (by rw[hk,e])
 have hself:(w'.setCell ⟨g,i,none⟩ r'.val).ownsRow base 125 5 r'.val r'.es.length (r'.es.flatMap bD):=bL ho h2 λk hk e=>bC ho hb1 (by decide) (by rw[hk,e])
 have hil:=(qK.1 hi).1;refine⟨?_,λx hx=> ?_,λa b ra rb ha hb hab=> ?_,h.low⟩
 ·have:=hb1.set_ i r'.val;have e:(S.map EnR.val).toArray.setIfInBounds i r'.val=((S.set i r').map EnR.val).toArray:=by rw[<-uD];simp[List.map_set]
  rwa[e]at this
 ·obtain⟨j,hj⟩:=jY.1 hx;by_cases hij:i=j
  ·subst hij;rw[jM hil]at hj;cases hj;exact hself
  ·rw[jX hij]at hj;exact hother j x hj hij
 ·have fresh:∀(j:Nat) (rj:EnR),S[j]? =some rj->i≠j->(r'.val.ownBlock=none\/r'.val.ownBlock≠rj.val.ownBlock)/\(rj.val.ownBlock=none\/rj.val.ownBlock≠r'.val.ownBlock):=λj rj hj hij=>by
   rcases hat with e|⟨k,hk,hkl⟩
   ·rw[e];exact⟨h.apart i j r rj hi hj hij,h.apart j i rj r hj hi λe=>hij e.symm⟩
   ·have hlt:=(h.rows rj (qB hj)).lt;refine⟨.inr λe=> ?_,?_⟩
    ·rw[hk]at e;have:=(hlt k e.symm).2;omega
    ·right
     intro e;rw[hk]at e;have:=(hlt k e).2;omega
  by_cases hai:i=a
  ·subst hai;rw[jM hil]at ha;cases ha;rw[jX hab]at hb;exact(fresh b rb hb hab).1
  ·rw[jX hai]at ha;by_cases hbi:i=b
   ·subst hbi;rw[jM hil]at hb;cases hb;exact(fresh a ra ha hai).2
   ·rw[jX hbi]at hb;exact h.apart a b ra rb ha hb hab
end
theorem yBd(v:Int)(g0 c0:Nat)(w:World)(hg:g0<w.heap.size)(hv:w.cell? ⟨g0,0,none⟩=some (.int .i64 v)):Calls prog 111 #[.slice (some ⟨g0,0,none⟩) 1 c0,.int .i64 0] w λe w'=>∃A c,e= .returned (.slice A 0 c)/\uR w w':=by
 obtain⟨i0,hi,hz0,hz1,hz2⟩:=zHd;have hmk:=λW=>dN (P:=prog) 22 3 i0 _ underlying22 hi hz0 .i64 .i64 0 0 (qA _) (by rw[hz2];omega) (by omega) W
 rw[hz1]at hmk;have H:=mul_one 0 (by omega) w;simp only[Int.cast_ofNat_Int]at H hmk;have H:=uT H;have hcp:∀(W:World) (g c ty:Nat),(Builtin.copy_ #[22,22] ty #[.slice (some ⟨g,0,none⟩) 0 c,.slice (some ⟨g0,0,none⟩) 1 c0]).run prog W= .ok (.int .i64 0) W:=λW g c ty=>by simp[Builtin.copy_,run_underlying underlying22,sizeOf,typeInfo,hi,Builtin.lenOf,Builtin.firstCells,goInt];have h:=run_loadCells_list (P:=prog) W ⟨g0,0,none⟩ [] (λj v h=>by simp at h);simp only[List.length_nil]at h;rw[h];rfl
 have HB:=uT (show uR w (w.alloc (.cells (madeCells #[.int .i64 0] (0*1)) 3))from(qC _ _).alloc (qA _) _);go_enter func111,ntmps111;go_wp2_with fail;refine H.s.mono ?_;rintro _ _ ⟨rfl,rfl⟩;go_wp2_with fail
 go_loopw [8] (λx wr=>x= .int .i64 0/\uR w wr) (λx _=>0)
 case atStart=>exact⟨rfl,HB.s⟩
 case round=>
  obtain⟨rfl,hz⟩:=hrel;have hd:decide ((0:Int)<0)=false:=by simp
  go_wp2_with fail;go_ret;exact⟨_,_,rfl,hz⟩
theorem yAm(v:Int)(n g0 c0:Nat)(w:World)(hn:n<=32)(hg:g0<w.heap.size)(hv:w.cell? ⟨g0,0,none⟩=some (.int .i64 v)):Calls prog 111 #[.slice (some ⟨g0,0,none⟩) 1 c0,.int .i64 n] w λe w'=>∃A c,e= .returned (.slice A n c)/\Reads w' w'.heap.size 1 A n ((List.replicate n v).map (.int .i64))/\uR w w':=by
 rcases Nat.eq_zero_or_pos n with h|h
 ·subst h;exact(yBd v g0 c0 w hg hv).mono λe w' ⟨A,c,he,hb⟩=>⟨A,c,he,⟨rfl,λh=>absurd h (by omega)⟩,hb⟩
 ·exact(zLi v n g0 c0 w h hn hg hv).mono λe w' ⟨u,he,ho,hb⟩=>by obtain⟨A,c,rfl,_⟩:=bE ho;exact⟨A,c,he,Reads.of_own ho,hb⟩
def TabMine(B:Nat)(w':World)(t:TabR):Prop:=(t.rs=[]\/∃g,B<=g/\t.A=some ⟨g,0,none⟩/\Blk w' g 103 (t.rs.map EnR.val).toArray)/\∀r∈t.rs,w'.ownsRow B 125 5 r.val r.es.length (r.es.flatMap bD)
theorem TabMine.below{B:Nat}{w w':World}{t:TabR}(h:TabMine B w t)(hb:uR w w'):TabMine B w' t:=
 ⟨h.1.imp id λ⟨g,h1,h2,h3⟩=>⟨g,h1,h2,h3.below hb h3.lt⟩,λr hr=>bI (h.2 r hr) hb⟩
def zDg(r:List (List Ent)×Int)(w:World)(e:Ending)(w':World):Prop:=
 ∃t:TabR,e= .returned (.tuple #[t.val,.int .i64 r.2])/\t.es=r.1/\TabRd w' w'.heap.size t/\uR w w'/\TabMine w.heap.size w' t
theorem zBg{r:List (List Ent)×Int}{x:Int}{w w':World}(h:r=([],x))(hb:uR w w'):zDg r w (.returned (.tuple #[.slice none 0 0,.int .i64 x])) w':=by rw[h];exact⟨⟨[],none,0⟩,rfl,rfl,⟨Reads.none_,λr h=>by simp at h⟩,hb,Or.inl rfl,λr h=>by simp at h⟩
theorem yBh(c:Cfg)(a b:Int)(bA:Option Addr)(bn bc:Nat)(bs:List Int)(B:Nat)(w:World)(hc:c.ok w B)(hB:B<=w.heap.size)(hbad:¬ (bG c=true/\(cG c a=true/\cG c b=true))):Calls prog 89 #[c.val,.int .i64 a,.int .i64 b,.slice bA bn bc] w (zDg (dI c a b bs) w):=by
 obtain⟨HMY,HBR⟩:=uI (λW (hW:uR w W)=>zCh c B W (hc.below (hW.mono hB)) (qN hB hW.size)) (λ(W:World) (h:bG c=true) (g:Nat) (hg:Blk W g 3 #[.int .i64 a,.int .i64 b])=>zEg c (some ⟨g,0,none⟩) 2 2 [a,b] W.heap.size W (by have:=zFq h;omega) rfl (by unfold maxLen;omega) (by have:=gQ (cs:=[.int .i64 a,.int .i64 b]) hg hg.lt;simpa using this) (qA _));obtain⟨w1,hw1⟩:=kB (w.alloc (.cells c.cells.toArray 24));have hb1:=uH hw1;obtain⟨p,hp⟩:=kB w.heap.size;have kb:Blk w1 p 24 c.cells.toArray:=by rw[hw1,hp];exact Blk.new w _ _
 obtain⟨HB1,HW1,HP,HP1,HP2⟩:=uL hb1 hw1 hp (show bG c=false->dI c a b bs=([],4)from λh=>by unfold dI;rw[if_pos h]) (show bG c=true->(cG c a=false\/cG c b=false)->dI c a b bs=([],2)from λh h2=>by unfold dI;rw[if_neg (by rw[h];simp),if_pos h2]);generalize dI c a b bs=R at*;have k0:=λ(W:World) (hz:uR w1 W)=>(kb.below hz kb.lt).cell 0
 have k1:=λ(W:World) (hz:uR w1 W)=>(kb.below hz kb.lt).cell 1
 have k2:=λ(W:World) (hz:uR w1 W)=>(kb.below hz kb.lt).cell 2
 have k3:=λ(W:World) (hz:uR w1 W)=>(kb.below hz kb.lt).cell 3
 have k4:=λ(W:World) (hz:uR w1 W)=>(kb.below hz kb.lt).cell 4
 have hz1:uR w1 w1:=qC _ _;clear hb1 kb hp hw1 hc;obtain⟨br,⟨lA,ln,lc,ls⟩,tk,⟨mA,mn,mc,ms⟩,cap⟩:=c;unfold Cfg.cells at HW1 k0 k1 k2 k3 k4;unfold Cfg.val at HMY HBR⊢;dsimp only at HMY HBR HW1 k0 k1 k2 k3 k4⊢;simp only[jH,List.getElem?_cons_zero,jP]at k0 k1 k2 k3 k4;have HBA:=uT hbad;clear hbad;cases hcf:bG ⟨br,⟨lA,ln,lc,ls⟩,tk,⟨mA,mn,mc,ms⟩,cap⟩
 ·rw[hcf]at HMY HP1;clear hcf;go_enter func89,ntmps89;go_upto_region 1 with fail;rw[<-HP.s,<-HW1.s];go_wp2_with fail;refine(HMY.s w1 HB1.s).mono ?_;rintro _ w2 ⟨rfl,hb2⟩;have HB2:=uT (HB1.s.trans (hb2.mono HB1.s.size));clear hb2;go_wp2_with fail;go_ret2;exact zBg (HP1.s trivial) HB2.s
 have hab:¬ (cG ⟨br,⟨lA,ln,lc,ls⟩,tk,⟨mA,mn,mc,ms⟩,cap⟩ a=true/\cG ⟨br,⟨lA,ln,lc,ls⟩,tk,⟨mA,mn,mc,ms⟩,cap⟩ b=true):=λh=>HBA.s ⟨hcf,h⟩
 have hab2:(cG ⟨br,⟨lA,ln,lc,ls⟩,tk,⟨mA,mn,mc,ms⟩,cap⟩ a&&cG ⟨br,⟨lA,ln,lc,ls⟩,tk,⟨mA,mn,mc,ms⟩,cap⟩ b)=false:=by rw[<-Bool.not_eq_true,qT];exact hab
 obtain⟨HPX,HBR2⟩:=uI (HP2.s hcf (by rw[<-Bool.and_eq_false_iff];exact hab2)) (λW g hg=>by have h:=HBR.s W hcf g hg;simp only[List.all_cons,List.all_nil,Bool.and_true]at h;rw[hab2]at h;exact h);rw[hcf]at HMY;clear hcf hab hab2 HBR HBA HP1 HP2;go_enter func89,ntmps89;go_upto_region 1 with fail;rw[<-HP.s,<-HW1.s];go_wp2_with fail;refine(HMY.s w1 HB1.s).mono ?_;rintro _ w2 ⟨rfl,hb2⟩;have hz2:uR w1 w2:=hb2;clear hb2;go_wp2_with fail;have hz3:uR w1 (w2.alloc (.cells #[.int .i64 a,.int .i64 b] 3)):=hz2.alloc hz2.size _;refine(HBR2.s _ _ (Blk.new w2 _ _)).mono ?_;rintro _ w3 ⟨rfl,hb3⟩;have HB3:=uT (HB1.s.trans ((hz3.trans (hb3.mono hz3.size)).mono HB1.s.size));clear hb3 hz3;go_wp2_with fail;go_ret2;exact zBg HPX.s HB3.s
theorem unp34(bs:List Int)(q:Nat)(hq:q<=4):dE (List.replicate (8*q) 34) bs=if bs.length=34*q then((List.range (8*q)).map (λk=>((slN bs k:Nat):Int)),0)else([],4):=by
 have hs:zAc (List.replicate (8*q) 34)=(((34*q:Nat):Int),0):=by
  unfold zAc;rw[jB,if_neg (by omega),zTq]
  congr 1
  omega
 have ht:dF (List.replicate (8*q) (34:Int))=272*q:=by unfold dF;rw[List.map_replicate,List.sum_replicate_nat];show 8*q*34=_;omega
 unfold dE;rw[hs];dsimp only;rw[if_neg (by simp)];by_cases h:bs.length=34*q
 ·rw[if_neg (by omega),if_pos h,if_pos (by unfold zDs;rw[ht];simp;intro k h1 h2;omega)]
  congr 1
  apply List.ext_getElem?;intro k;by_cases hk:k<8*q
  ·have htw:dF ((List.replicate (8*q) (34:Int)).take k)=34*k:=by unfold dF;rw[List.take_replicate,List.map_replicate,List.sum_replicate_nat,Nat.min_eq_left (by omega)];show k*34=34*k;omega
   rw[zUc bs _ 0 k 34 (by rw[jV,if_pos hk]),htw,Nat.zero_add];simp[hk,slN]
  ·rw[qU (by rw[zHv,jB];omega),qU (by simp;omega)]
 ·rw[if_pos (by omega),if_neg h]
theorem zSw(e:Ent)(w:World)(hv:0<=e.value/\e.value<=255)(ht:0<=e.time/\e.time<2097152)(hw:0<=e.who/\e.who<=7):Calls prog 109 #[zCe e] w λx w'=>x= .returned (.int .i64 (zAo e))/\uR w w':=by
 obtain⟨key,value,time,who,gone⟩:=e;dsimp only at hv ht hw;obtain⟨value,rfl⟩:=qP hv.1;obtain⟨time,rfl⟩:=qP ht.1;obtain⟨who,rfl⟩:=qP hw.1;have key2:∀a:Nat,a<=3->bits .or .i64 (wrap64 (bits .or .i64 (wrap64 (bits .or .i64 ((a*2^8:Nat):Int) value*2097152)) time*8)) who=((((a*256+value)*2097152+time)*8+who:Nat):Int):=λa ha=>by rw[zHa 8 a value (by omega) (by omega) (by omega)];rw[show wrap64 (((a*2^8+value:Nat):Int)*2097152)=(((a*256+value)*2^21:Nat):Int)by unfold wrap64;omega];rw[zHa 21 (a*256+value) time (by omega) (by omega) (by omega)];rw[show wrap64 ((((a*256+value)*2^21+time:Nat):Int)*8)=((((a*256+value)*2097152+time)*2^3:Nat):Int)by unfold wrap64;omega];rw[zHa 3 _ who (by omega) (by omega) (by omega)]
 unfold zCe;dsimp only;have HB:=uT (show uR w (w.alloc (.cells #[.int .i64 key,.int .i64 value,.int .i64 time,.int .i64 who,.bool gone] 125))from(qC _ _).alloc (qA _) _);cases gone
 ·have HS:=uT (key2 2 (by omega));clear key2;go_enter func109,ntmps109;go_wp2_with fail;go_ret;exact⟨fG HS.s,HB.s⟩
 ·have HS:=uT (key2 3 (by omega));clear key2;go_enter func109,ntmps109;go_wp2_with fail;go_ret;exact⟨fG HS.s,HB.s⟩
theorem mayP_one(e:Ent):bU [e]=gJ e:=by unfold bU;simp[dO,above]
theorem zXy(key n:Nat)(hn:n<17179869184)(h:isN n=false)(h1:1<=n/4294967296):zAo (zAq key n)≠n:=by
 unfold isN at h;simp only[decide_eq_false_iff_not]at h;unfold zAo zCu zAq;dsimp only;simp only[qR,decide_eq_true_eq]
 split<;>omega
theorem zZu(key n:Nat):zAo (zAq key n)<17179869184:=by
 unfold zAo zCu zAq;dsimp only;simp only[qR,decide_eq_true_eq]
 split<;>omega
theorem OTb.new{w:World}{base g n:Nat}(h:Blk w g 103 (zAy n))(hb:base<=g):OTb w base g (List.replicate n EnR.nil):=by
 refine⟨?_,λr hr=> ?_,λi j ri rj hi hj _=> ?_,hb⟩
 ·rw[List.map_replicate];exact h
 ·obtain rfl:=jT hr;exact qH _ _ _ _
 ·obtain rfl:=jT (qB hi);exact .inl rfl
theorem zOs{w:World}{base size n:Nat}{e:TypeId}{v:Value}{xs:List Value}(h:w.ownsRow base e size v n xs){g:Nat}{t:TypeId}{cs:Array Value}(hb:Blk w g t cs)(hne:e≠t)(i:Nat)(u:Value):(w.setCell ⟨g,i,none⟩ u).ownsRow base e size v n xs:=
 bL h (bJ (Only.refl _ w) i u) λk hk hd=>bC h hb hne (by rw[hk,hd])
theorem OTb.grow{W w7:World}{base g i pe g7 cap7:Nat}{S:List EnR}{res:List Ent}{rA:Option Addr}{rc:Nat}{E:Ent}{cs:Array Value}(hT:OTb W base g S)(hi:S[i]? =some ⟨res,rA,rc⟩)(hK:Blk W pe 125 cs)(hne:∀k,(Value.slice rA res.length rc).ownBlock=some k->k≠pe)(hgp:g≠pe)(hgr:W.grownBy w7 (Value.slice rA res.length rc).ownBlock)(hown:w7.ownsRow base 125 5 (.slice (some ⟨g7,0,none⟩) (res.length+1) cap7) (res.length+1) (res.flatMap bD++bD E))(hat:some g7=(Value.slice rA res.length rc).ownBlock\/g7=W.heap.size+1):w7.cell? ⟨g,i,none⟩=some (.slice rA res.length rc)/\w7.frozen? ⟨g,i,none⟩=false/\(∀u,Blk (w7.setCell ⟨g,i,none⟩ u) pe 125 cs)/\OTb (w7.setCell ⟨g,i,none⟩ (.slice (some ⟨g7,0,none⟩) (res.length+1) cap7)) base g (S.set i ⟨res++[E],some ⟨g7,0,none⟩,cap7⟩)/\∃cs',Blk w7 g 103 cs':=by
 have hO:=hT.rows _ (qB hi);have hbk:=hT.blk.grown hgr (zEa hO hT.blk (by decide));refine⟨?_,hbk.frozen i,λu=>(hK.grown hgr λe=>hne _ e.symm rfl).far (λe=>hgp e.symm) u,?_,_,hbk⟩
 ·rw[hbk.cell];simp[hi,EnR.val]
 ·have h:=hT.push (r:=⟨res,rA,rc⟩) (r':=⟨res++[E],some ⟨g7,0,none⟩,cap7⟩) hi hgr (by simpa[EnR.val,jN]using hown) (by
   rcases hat with e|e
   ·exact .inl (by simpa[EnR.val,Value.ownBlock]using e)
   ·exact .inr ⟨g7,rfl,by omega⟩)
  simpa[EnR.val]using h
theorem yDv(c:Cfg)(a b:Nat)(bA:Option Addr)(bn bc:Nat)(bs:List Int)(B:Nat)(w:World)(hc:c.ok w B)(hB:B<=w.heap.size)(hbl:bs.length=bn)(hbn:bn<=bc)(hbm:bc<=maxLen)(hbr:Reads w B 1 bA bn (bs.map (.int .u8)))(hbz:∀z∈bs,0<=z/\z<=255)(hcf:bG c=true)(hab:cG c a=true/\cG c b=true):Calls prog 89 #[c.val,.int .i64 a,.int .i64 b,.slice bA bn bc] w (zDg (dI c a b bs) w):=by
 obtain⟨b1,b2,b3,b4⟩:=zFq hcf;have ha8:a<=8:=by have:=hab.1;unfold cG at this;simp at this;omega
 have hb8:b<=8:=by have:=hab.2;unfold cG at this;simp at this;omega
 have HHP:=uT (show dI c a b bs=if bs.length≠34*(bM a b c.la.zs 0).length then([],4)else if zDz bs (bM a b c.la.zs 0).length=true then(dL bs (bM a b c.la.zs 0) c.la.zs.length (8*(bM a b c.la.zs 0).length),0)else([],4)by unfold dI;rw[if_neg (by rw[hcf];simp),if_neg (by rw[hab.1,hab.2];simp),qR,qR])
 have hisl:=zGa a b c.la.zs 0;have hism:=zCp a b c.la.zs 0;have hnd:=zDf a b c.la.zs 0;have HMY:=uT (λW (hW:uR w W)=>zCh c B W (hc.below (hW.mono hB)) (qN hB hW.size));rw[hcf]at HMY;have HBR:=uT (λ(W:World) (g:Nat) (hg:Blk W g 3 #[.int .i64 (a:Int),.int .i64 (b:Int)])=>zEg c (some ⟨g,0,none⟩) 2 2 [(a:Int),(b:Int)] W.heap.size W (by omega) rfl (by unfold maxLen;omega) (by have:=gQ (cs:=[.int .i64 (a:Int),.int .i64 (b:Int)]) hg hg.lt;simpa using this) (qA _));rw[show [(a:Int),(b:Int)].all (cG c)=true by simp[hab.1,hab.2]]at HBR;have HSH:=uT (λ(W:World) (hW:uR w W)=>zJx c a b B W (hc.below (hW.mono hB)) (qN hB hW.size) (by omega) (by omega) b3 b4);obtain⟨is,his⟩:=kB (bM a b c.la.zs 0);rw[<-his]at HHP HSH hisl hism hnd;have hq4:is.length<=4:=by omega
 have hll:=hc.1.1;obtain⟨HISM,HBRD,HBZ,HBL⟩:=uK (λi (hi:i∈is)=>show i<c.la.n by have:=hism i hi;omega) (hbr.more hB) hbz hbl;have hln4:c.la.n<=4:=by omega
 rw[hll]at HHP;obtain⟨w1,hw1⟩:=kB (w.alloc (.cells c.cells.toArray 24));have hb1:=uH hw1;obtain⟨p,hp⟩:=kB w.heap.size;have kb:Blk w1 p 24 c.cells.toArray:=by rw[hw1,hp];exact Blk.new w _ _
 obtain⟨HB1,HW1,HP⟩:=uJ hb1 hw1 hp;have k0:=λ(W:World) (hz:uR w1 W)=>(kb.below hz kb.lt).cell 0
 have k1:=λ(W:World) (hz:uR w1 W)=>(kb.below hz kb.lt).cell 1
 have k2:=λ(W:World) (hz:uR w1 W)=>(kb.below hz kb.lt).cell 2
 have k3:=λ(W:World) (hz:uR w1 W)=>(kb.below hz kb.lt).cell 3
 have k4:=λ(W:World) (hz:uR w1 W)=>(kb.below hz kb.lt).cell 4
 have hz1:uR w1 w1:=qC _ _;obtain⟨iE,hiE,hzE,hsE,hyE⟩:∃i,prog.info? 125=some i/\i.zero=some (.agg #[.int .i64 0,.int .i64 0,.int .i64 0,.int .i64 0,.bool false])/\i.size=5/\i.bytes=40:=gB (by kernel_rfl);obtain⟨iL,hiL,zL,hzL,hcL,hsL,hyL⟩:∃i,prog.info? 103=some i/\∃z,i.zero=some z/\z.cells.toList=[Value.slice none 0 0]/\i.size=1/\i.bytes=24:=zAb (by kernel_rfl);obtain⟨br,⟨lA,ln,lc,ls⟩,tk,⟨mA,mn,mc,ms⟩,cap⟩:=c;dsimp only at HISM hln4 HHP;have hmk:=λW=>dN (P:=prog) 78 103 iL _ underlying78 hiL hzL .i64 .i64 ln ln (qA _) (by rw[hyL];omega) (by omega) W
 rw[hsL,Nat.mul_one,zGy ln zL.cells hcL]at hmk;have HMK:=uT hmk;have hbcm:=hbm;unfold maxLen at hbcm;clear hb1 kb hp hw1 hc hcf hab b1 b2 b3 b4 his hisl hism hll hmk hzL hcL hsL hyL hiL hbr hbz hbl hbm;unfold Cfg.cells at HW1 k0 k1 k2 k3 k4;unfold Cfg.val at HMY HBR HSH⊢;dsimp only at HMY HBR HSH HW1 k0 k1 k2 k3 k4⊢;simp only[jH,List.getElem?_cons_zero,jP]at k0 k1 k2 k3 k4;obtain⟨q,hq⟩:=kB is.length;rw[<-hq]at hq4 HHP HSH;obtain⟨HQ,HND⟩:=uI hq.symm hnd;clear hq hnd;go_enter func89,ntmps89;go_upto_region 1 with fail;rw[<-HP.s,<-HW1.s];go_wp2_with fail;refine(HMY.s w1 HB1.s).mono ?_;rintro _ w2 ⟨rfl,hb2⟩;have hz2:uR w1 w2:=hb2;clear hb2;go_wp2_with fail;have hz3:uR w1 (w2.alloc (.cells #[.int .i64 a,.int .i64 b] 3)):=hz2.alloc hz2.size _;refine(HBR.s _ _ (Blk.new w2 _ _)).mono ?_;rintro _ w3 ⟨rfl,hb3⟩;have hz4:uR w1 w3:=hz3.trans (hb3.mono hz3.size);have HB3:=uT (HB1.s.trans (hz4.mono HB1.s.size));clear hb3 hz3 hz2;go_wp2_with fail;refine(HSH.s _ HB3.s).mono ?_;rintro _ w5 ⟨v5,rfl,ho5,hb5⟩;obtain⟨A5,c5,rfl,_⟩:=bE ho5;have hz5:uR w1 w5:=hz4.trans (hb5.mono hz4.size);obtain⟨HO5,HB5⟩:=uI (dU ho5 HB3.s.size) (HB3.s.trans (hb5.mono HB3.s.size));clear ho5 hb5 hz4;go_upto_region 6 with fail;obtain⟨w6,hw6⟩:=kB (w5.alloc (.cells #[.int .i64 34] 3));have hb6:=uH hw6;have k6:Blk w6 w5.heap.size 3 #[.int .i64 34]:=by rw[hw6];exact Blk.new _ _ _
 have HRP:=uT (yAm 34 (8*q) w5.heap.size 1 w6 (by omega) k6.lt (k6.cell 0));have hmul:((8*q:Nat):Int)=(q:Int)*8:=by omega
 rw[hmul]at HRP;obtain⟨HW6,HB6⟩:=uI hw6 (HB5.s.trans (hb6.mono HB5.s.size));have hz6:uR w1 w6:=hz5.trans (hb6.mono hz5.size);have HO6:=uT (bI HO5.s hb6);clear hw6 hb6 k6 hmul hz5 hz1;go_wp2_with fail;rw[<-HW6.s];refine HRP.s.mono ?_;rintro _ w7 ⟨A7,c7,rfl,hr7,hb7⟩;have HB7:=uT (HB6.s.trans (hb7.mono HB6.s.size));have hz7:uR w1 w7:=hz6.trans (hb7.mono hz6.size);obtain⟨HO7,HUP⟩:=uI (bI HO6.s hb7) (zLb A7 (8*q) c7 (List.replicate (8*q) 34) bA bn bc bs w7 (jB ..) (by omega) hr7 HBL.s (by omega) hbn ((HBRD.s.below HB7.s).more HB7.s.size) HBZ.s);rw[show zTb (List.replicate (8*q) 34) bs w7=λe w=>∃v,e= .returned (.tuple #[v,.int .i64 (dE (List.replicate (8*q) 34) bs).2])/\w.ownsRow w7.heap.size 3 1 v (dE (List.replicate (8*q) 34) bs).1.length ((dE (List.replicate (8*q) 34) bs).1.map (.int .i64))/\uR w7 w from rfl,unp34 bs q hq4]at HUP;clear hr7 hb7 hz6;by_cases hlen:bs.length=34*q
 case neg=>have HR4:=uT (show dI ⟨br,⟨lA,ln,lc,ls⟩,tk,⟨mA,mn,mc,ms⟩,cap⟩ a b bs=([],4)by rw[HHP.s,if_pos hlen]);rw[if_neg hlen]at HUP;clear hlen;go_wp2_with fail;refine HUP.s.mono ?_;rintro _ w8 ⟨v8,rfl,_,hb8'⟩;have HB8:=uT (HB7.s.trans (hb8'.mono HB7.s.size));clear hb8';go_wp2_with fail;go_ret2;exact zBg HR4.s HB8.s
 have HHP2:=uT (show dI ⟨br,⟨lA,ln,lc,ls⟩,tk,⟨mA,mn,mc,ms⟩,cap⟩ a b bs=if zDz bs q=true then(dL bs is ln (8*q),0)else([],4)by rw[HHP.s,if_neg (by rw[hlen];simp)]);rw[if_pos hlen]at HUP;clear hlen HHP;go_wp2_with fail;refine HUP.s.mono ?_;rintro _ w8 ⟨v8,rfl,ho8,hb8'⟩;have HB8:=uT (HB7.s.trans (hb8'.mono HB7.s.size));have hz8:uR w1 w8:=hz7.trans (hb8'.mono hz7.size);have HO8:=uT (bI HO7.s hb8');rw[qQ,List.length_range]at ho8;obtain⟨A8,c8,rfl,_⟩:=bE ho8;have HV8:=uT (dU ho8 HB7.s.size);clear ho8 hb8' hz7;go_upto_region 9 with fail;have hk8:=HMK.s w8;obtain⟨w9,hw9⟩:=kB (w8.alloc (.cells (zAy ln) 103));have hb9:=uH hw9;obtain⟨g,hg⟩:=kB w8.heap.size;have k9:Blk w9 g 103 (zAy ln):=by rw[hw9,hg];exact Blk.new _ _ _
 obtain⟨HT9,HB9⟩:=uI (OTb.new k9 (show w.heap.size<=g by rw[hg];exact HB8.s.size)) (HB8.s.trans (hb9.mono HB8.s.size));have hz9:uR w1 w9:=hz8.trans (hb9.mono hz8.size);obtain⟨HO9,HV9⟩:=uI (bI HO8.s hb9) (bI HV8.s hb9);rw[<-hw9,<-hg]at hk8;clear hw9 hb9 k9 hg;go_upto_region 10 with fail;clear hk8 hz8 hz9;go_wp2_with fail;have HB9':=HB9.s
 go_loopw [52] (λj W=>∃(k:Nat) (S:List EnR),k<=8*q/\j= .int .i64 k/\uS (OTb W w.heap.size g S)/\uS (S.map EnR.es=dL bs is ln k)/\uS (∀j,j<k->zCf (j%8) (slN bs j)=true)/\uS (W.ownsRow w.heap.size 3 1 (.slice A5 q c5) q (is.map λi=>Value.int .i64 ((i:Nat):Int)))/\uS (W.ownsRow w.heap.size 3 1 (.slice A8 (8*q) c8) (8*q) (((List.range (8*q)).map λk=>((slN bs k:Nat):Int)).map (.int .i64)))/\uR w W) (λj _=>8*q-(intOf j).toNat)
 case atStart=>exact⟨0,_,qL _,rfl,HT9,uT (by simp[dL,EnR.nil]),uT (λj h=>by omega),HO9,HV9,HB9'⟩
 case round=>
  obtain⟨k,S,hk,rfl,HT,HSR,HGD,HI,HV,hz⟩:=hrel;by_cases hlt:k<8*q
  ·obtain⟨bv,ov,z,rfl,_,hzv,hcv⟩:=dQ (Reads.of_own HV.s) hlt;obtain rfl:z=((slN bs k:Nat):Int):=by simp[hlt]at hzv;exact hzv.symm
   have hi:is[k/8]? =some (is[k/8]'(by rw[HQ.s];omega)):=qI _;generalize is[k/8]'(by rw[HQ.s];omega)=i at hi;have hiln:=HISM.s i (qB hi);have HRN:=uT (show dL bs is ln (k+1)=if isN (slN bs k)then zHm (dL bs is ln k) i (zAq (k%8) (slN bs k))else dL bs is ln k by rw[dL,qG,hi];rfl)
   obtain⟨bi,oi,i',hA5,_,hi',hci⟩:=zCv (λi:Nat=>Value.int .i64 ((i:Nat):Int)) (Reads.of_own HI.s) (show k/8<q by omega);obtain rfl:i'=i:=by rw[hi]at hi';cases hi';rfl
   subst hA5;have HBAD:=uT (show zCf (k%8) (slN bs k)=false->dI ⟨br,⟨lA,ln,lc,ls⟩,tk,⟨mA,mn,mc,ms⟩,cap⟩ a b bs=([],4)from λh=>by rw[HHP2.s,if_neg];intro hga;have:=uE.1 hga k (jZ.2 hlt);rw[h]at this;cases this)
   have HGD2:=uT (show zCf (k%8) (slN bs k)=true->∀j,j<k+1->zCf (j%8) (slN bs j)=true from λh j hj=>by
    rcases Nat.lt_or_ge j k with h1|h1
    ·exact HGD.s j h1
    ·obtain rfl:j=k:=by omega
     exact h)
   have hnlt:=zYw bs k;obtain⟨n,hn⟩:=kB (slN bs k);rw[<-hn]at hcv HRN HBAD HGD2 hnlt;have hkq:(k:Int)<((8*q:Nat):Int):=by omega
   have HEN:=uT (show Calls prog 114 #[.int .i64 ((k:Int)%8),.int .i64 n] wr λe w'=>e= .returned (.tuple #[zCe (zAq (k%8) n),.bool (decide (1<=n/4294967296))])/\uR wr w' by have h:=zTd (k%8) n wr (by omega) hnlt;rw[show((k:Int)%8)=((k%8:Nat):Int)by omega];exact h)
   have hsi:S[i']? =some (S[i']'(by have h:=congrArg List.length HSR.s;rw[qQ,zBx]at h;omega)):=qI _;generalize S[i']'(by have h:=congrArg List.length HSR.s;rw[qQ,zBx]at h;omega)=r at hsi;have hgd:(dL bs is ln k).getD i' []=r.es:=by rw[<-HSR.s,qG,qV,hsi];rfl
   obtain⟨E,hE⟩:=kB (zAq (k%8) n);have hEv:(0<=E.value/\E.value<=255)/\(0<=E.time/\E.time<2097152)/\(0<=E.who/\E.who<=7):=by rw[hE];simp only[zAq];omega
   have HSL:=uT (λW=>zSw E W hEv.1 hEv.2.1 hEv.2.2);have hslt:zAo E<17179869184:=by rw[hE];exact zZu _ _
   obtain⟨HSD,HSN,HGOOD⟩:=uJ (show isN n=true->zAo E=n from λh=>by rw[hE];exact zUs _ n hnlt h) (show isN n=false->1<=n/4294967296->zAo E≠n from λh h1=>by rw[hE];exact zXy _ n hnlt h h1) (show zCf (k%8) n=(decide (n=0)||(isN n&&gJ E))by rw[hE];rfl);rw[<-hE]at HEN HRN;have hilt:(i':Int)<(ln:Int):=by omega
   have hk8:(k:Int)/8=((k/8:Nat):Int):=by omega
   obtain⟨ek,ev,et,ew,eg⟩:=E;unfold zCe at HEN HSL;dsimp only at HEN HSL;obtain⟨HHI,HGDR,HINUM⟩:=uJ hsi hgd hi;clear hzv hi hi' hn hsi hgd hE hEv hk8 hiln HGD;have g5:∀W,uR wr W->W.cell? ⟨bi,oi+k/8,none⟩=some (.int .i64 i'):=λW hW=>Ext.cell ⟨W,hW⟩ hci
   have g6:∀W,uR wr W->W.cell? ⟨g,i',none⟩=some r.val:=λW hW=>Ext.cell ⟨W,hW⟩ (HT.s.cell HHI.s)
   obtain⟨res,rA,rc⟩:=r;unfold EnR.val at g6;dsimp only at g6 HGDR;have HROW:=uT (HT.s.rows _ (qB HHI.s));have hrl:res.length<=8:=by rw[<-HGDR.s,(zFt bs is ln q HQ.s HND.s HISM.s k hk).1 (k/8) i' HINUM.s];exact qN (zFg _ _ _) (Nat.min_le_left _ _)
   have HRL:=uT hrl;clear hci hrl;by_cases h1:1<=n/4294967296
   ·have hd1:decide (1<=n/4294967296)=true:=by simpa using h1
    rw[hd1]at HEN;go_wp2_with fail;refine HEN.s.mono ?_;rintro _ wa ⟨rfl,hba⟩;obtain⟨wb,hwb⟩:=kB (wa.alloc (.cells #[.int .i64 ek,.int .i64 ev,.int .i64 et,.int .i64 ew,.bool eg] 125));have hbb:uR wr wb:=by rw[hwb];exact hba.alloc hba.size _
    obtain⟨pe,hpe⟩:=kB wa.heap.size;have kE:Blk wb pe 125 #[.int .i64 ek,.int .i64 ev,.int .i64 et,.int .i64 ew,.bool eg]:=by rw[hwb,hpe];exact Blk.new _ _ _
    obtain⟨HWB,HPE,HPA,HGP,HKE⟩:=uL hwb hpe hba.size (show g≠pe by have:=HT.s.blk.lt;have:=hba.size;omega) kE;clear hwb hpe kE hba;go_upto_region 15 with fail;rw[<-HWB.s,<-HPE.s];go_upto_region 16 with fail;have s0:=λn:Ext wb=>n.cell (v:= .int .i64 ek) (HKE.s.cell 0)
    have s1:=λn:Ext wb=>n.cell (v:= .int .i64 ev) (HKE.s.cell 1)
    have s2:=λn:Ext wb=>n.cell (v:= .int .i64 et) (HKE.s.cell 2)
    have s3:=λn:Ext wb=>n.cell (v:= .int .i64 ew) (HKE.s.cell 3)
    have s4:=λn:Ext wb=>n.cell (v:= .bool eg) (HKE.s.cell 4)
    have s5:=λn:Ext wb=>n.cell (g6 wb hbb)
    refine bO [0,1] [2,3,4,5,6] [] [7] 8 [9,10] (by kernel_rfl) (by kernel_rfl) (by intro c a d v w h;cases d<;>exact h) ?_;simp only[bB,qJ,qO,qD,qE]
    repeat(go_big_quiet_step (fail))
    refine qF ?_
    repeat(go_big_quiet_step (fail))
    refine qF (qF ?_);rintro W ⟨nq,hW⟩;have hWB:uR wr W:=hbb.trans ((hW▸nq.h:uR wb W).mono hbb.size);have kW:Blk W pe 125 #[.int .i64 ek,.int .i64 ev,.int .i64 et,.int .i64 ew,.bool eg]:=HKE.s.below (hW▸nq.h:uR wb W) HKE.s.lt;have hnq:uR wb W:=hW▸nq.h;clear hW nq s0 s1 s2 s3 s4 s5;simp only[fJ];obtain⟨HKW,HTW,HRW⟩:=uJ kW (HT.s.calm hWB) (bI HROW.s hWB);have hzW:=hz.trans (hWB.mono hz.size);have hsW:=hzW.size;obtain⟨HIW,HVW⟩:=uI (bI HI.s hWB) (bI HV.s hWB);have hfg:=HTW.s.blk.frozen i';have hmq:(res.length+1)*40<=140737488355328:=by have:=HRL.s;omega
    have hown:W.ownsRow w.heap.size 125 5 (.slice rA res.length rc) res.length (res.flatMap bD):=HRW.s;have hpne:∀k',(Value.slice rA res.length rc).ownBlock=some k'->k'≠pe:=λk' hk'=>by have:=(HROW.s.lt k' hk').2;have:=HPE.s;have:=HPA.s;omega
    obtain⟨HOWN,HPNE,HMQ⟩:=uJ hown hpne hmq;clear kW hown hpne hmq;go_wp2_with fail;refine⟨⟨⟨_,hnq.alloc hnq.size _⟩,rfl⟩,?_⟩;clear hnq;have hsW':=hzW.size;have HZW:=uT hzW;clear hzW;go_wp2_with(first
     |(at_builtin;(refine bF W rfl (.tmp 76) (.tmp 78) _ rfl w.heap.size 125 iE _ 5 40 underlying103 hiE hzE hsE hyE rfl (by omega) (by omega) _ _ _ HOWN.s rfl _ 1 _ rfl rfl rfl (by simp[Value.oneCell']) HMQ.s hsW' ?_);intro g7 cap7 w7 hg7 hown7 hbel7 hgr7 hat7
       obtain⟨u0,u1,hpe8,ht8,_,hb7⟩:=HTW.s.grow (E:=⟨ek,ev,et,ew,eg⟩) HHI.s HKW.s HPNE.s HGP.s hgr7 hown7 hat7;have HPE8:=uT hpe8;have v0:=λu=>(hpe8 u).cell 0
       have v1:=λu=>(hpe8 u).cell 1
       have v2:=λu=>(hpe8 u).cell 2
       have v3:=λu=>(hpe8 u).cell 3
       have v4:=λu=>(hpe8 u).cell 4
       obtain⟨HT8,HZ7,HI7,HV7⟩:=uK ht8 (hbel7 w.heap.size w (qA _) HZW.s) (zOs (fP HIW.s HOWN.s (by decide) hgr7) hb7 (by decide) i' (.slice (some ⟨g7,0,none⟩) (res.length+1) cap7)) (zOs (fP HVW.s HOWN.s (by decide) hgr7) hb7 (by decide) i' (.slice (some ⟨g7,0,none⟩) (res.length+1) cap7));clear hb7 hg7 hown7 hbel7 hgr7 hat7 hpe8 ht8))
    refine(HSL.s _).mono ?_;rintro _ wc ⟨rfl,hbc⟩;obtain⟨w8,hw8⟩:=kB (w7.setCell ⟨g,i',none⟩ (.slice (some ⟨g7,0,none⟩) (res.length+1) cap7));have HT9:=HT8.s;have HP9:=HPE8.s (.slice (some ⟨g7,0,none⟩) (res.length+1) cap7);have HZ8:=HZ7.s.setCell (p:=⟨g,i',none⟩) (by have:=HTW.s.low;exact this) (.slice (some ⟨g7,0,none⟩) (res.length+1) cap7);have HI8:=HI7.s;have HV8:=HV7.s;rw[<-hw8]at HT9 HP9 HZ8 HI8 HV8 hbc;have HTc:=uT (HT9.calm hbc);have hPc:=HP9.below hbc HP9.lt;obtain⟨HZc,HIc,HVc⟩:=uJ (HZ8.trans (hbc.mono HZ8.size)) (bI HI8 hbc) (bI HV8 hbc);have x0:=hPc.cell 0;have x1:=hPc.cell 1;have x2:=hPc.cell 2;have x3:=hPc.cell 3;have x4:=hPc.cell 4;clear HT9 HP9 HZ8 HI8 HV8 hbc hPc hw8 HT8 HPE8 HZ7 HI7 HV7 v0 v1 v2 v3 v4 u0 u1;by_cases hisn:isN n=true
    ·have HME:=uT (show∀W,uR wc W->Calls prog 107 #[.slice (some ⟨wc.heap.size,0,none⟩) 1 1] (wc.alloc (.cells #[.int .i64 ek,.int .i64 ev,.int .i64 et,.int .i64 ew,.bool eg] 125)) λe w'=>e= .returned (.bool (gJ ⟨ek,ev,et,ew,eg⟩))/\uR wc w' from λW hW=>by have h:=zIh (some ⟨wc.heap.size,0,none⟩) 1 1 [⟨ek,ev,et,ew,eg⟩] _ (wc.alloc (.cells #[.int .i64 ek,.int .i64 ev,.int .i64 et,.int .i64 ew,.bool eg] 125)) rfl (by unfold maxLen;omega) (zUy (Blk.new wc 125 _) 5 1 rfl) (qA _);rw[mayP_one]at h;refine h.mono ?_;rintro e w' ⟨rfl,h2⟩;exact⟨rfl,((qC _ _).alloc (qA _) _).trans (h2.mono (by simp))⟩)
     have hsl:=HSD.s hisn;have hsl':(((zAo ⟨ek,ev,et,ew,eg⟩:Nat):Int) !=(n:Int))=false:=by rw[hsl];simp
     go_wp2_with fail;refine(HME.s wc (qC _ _)).mono ?_;rintro _ wd ⟨rfl,hbd⟩;obtain⟨HTd,HZd,HId,HVd⟩:=uK (HTc.s.calm hbd) (HZc.s.trans (hbd.mono HZc.s.size)) (bI HIc.s hbd) (bI HVc.s hbd);clear hbd;by_cases hone:gJ ⟨ek,ev,et,ew,eg⟩=true
     ·obtain⟨HRN2,HGK,HGE⟩:=uJ (show dL bs is ln (k+1)=zHm (dL bs is ln k) i' ⟨ek,ev,et,ew,eg⟩by rw[HRN.s,if_pos hisn]) (HGD2.s (by rw[HGOOD.s,hisn,hone];simp)) (show(dL bs is ln k).getD i' []=res from HGDR.s);rw[hone];clear hone hisn;go_wp2_with fail;go_roundw
      case rel=>exact⟨k+1,_,by omega,by go_num,HTd,uT (by rw[HRN2.s,zHm,HGE.s,List.map_set,HSR.s]),HGK,HId,HVd,HZd.s⟩
      case measure=>simp[intOf];omega
     ·have hone':gJ ⟨ek,ev,et,ew,eg⟩=false:=by simpa using hone
      have HR4:=uT (HBAD.s (by rw[HGOOD.s,hisn,hone'];simp;intro hn;rw[hn]at h1;simp at h1));rw[hone'];clear hone hone' hisn;go_wp2_with fail;go_ret2;exact zBg HR4.s HZd.s
    ·have hsl:=HSN.s (by simpa using hisn) h1;have hsl':(((zAo ⟨ek,ev,et,ew,eg⟩:Nat):Int) !=(n:Int))=true:=by simp;omega
     have HR4:=uT (HBAD.s (by rw[HGOOD.s];simp[hisn];unfold isN at hisn;intro hn;rw[hn]at h1;simp at h1));go_wp2_with fail;go_ret2;exact zBg HR4.s HZc.s
   ·have hd1:decide (1<=n/4294967296)=false:=by simpa using h1
    rw[hd1]at HEN;by_cases h0:n=0
    ·have hisn:isN n=false:=by unfold isN;simp;omega
     obtain⟨HRN2,HGK⟩:=uI (show dL bs is ln (k+1)=dL bs is ln k by rw[HRN.s,if_neg (by rw[hisn];simp)]) (HGD2.s (by rw[HGOOD.s,h0];rfl));clear hisn;subst h0;go_wp2_with fail;refine HEN.s.mono ?_;rintro _ wa ⟨rfl,hba⟩;have hbb:uR wr (wa.alloc (.cells #[.int .i64 ek,.int .i64 ev,.int .i64 et,.int .i64 ew,.bool eg] 125)):=hba.alloc hba.size _;obtain⟨HTB,HIB,HVB,HZB⟩:=uK (HT.s.calm hbb) (bI HI.s hbb) (bI HV.s hbb) (hz.trans (hbb.mono hz.size));clear hba hbb;go_wp2_with fail;go_roundw
     case rel=>exact⟨k+1,S,by omega,by go_num,HTB,uT (by rw[HRN2.s];exact HSR.s),HGK,HIB,HVB,HZB.s⟩
     case measure=>simp[intOf];omega
    ·have hisn:isN n=false:=by unfold isN;simp;omega
     have HR4:=uT (HBAD.s (by rw[HGOOD.s,hisn];simpa using h0));have hn0:(n !=0)=true:=by simpa using h0
     have hn1:((n:Int) !=0)=true:=by simp;omega
     clear hisn;go_wp2_with fail;refine HEN.s.mono ?_;rintro _ wa ⟨rfl,hba⟩;have HZB:=uT (hz.trans ((hba.alloc hba.size (.cells #[.int .i64 ek,.int .i64 ev,.int .i64 et,.int .i64 ew,.bool eg] 125)).mono hz.size));clear hba;go_wp2_with fail;go_ret2;exact zBg HR4.s HZB.s
  ·obtain rfl:k=8*q:=by omega
   have HFI:=uT (show dI ⟨br,⟨lA,ln,lc,ls⟩,tk,⟨mA,mn,mc,ms⟩,cap⟩ a b bs=(dL bs is ln (8*q),0)by rw[HHP2.s,if_pos];unfold zDz;rw[uE];intro j hj;exact HGD.s j (jZ.1 hj))
   have hSl:S.length=ln:=by have h:=congrArg List.length HSR.s;rw[qQ,zBx]at h;exact h
   have HSL:=uT hSl;clear hSl;go_wp2_with fail;go_ret2;unfold zDg;rw[HFI.s];refine⟨⟨S,some ⟨g,0,none⟩,ln⟩,by unfold TabR.val;dsimp only;rw[HSL.s];rfl,HSR.s,⟨?_,λr hr=>Reads.of_own (HT.s.rows r hr)⟩,hz,Or.inr ⟨g,HT.s.low,rfl,HT.s.blk⟩,HT.s.rows⟩;dsimp only;have h:=gQ HT.s.blk HT.s.blk.lt;simpa using h
theorem yHx(c:Cfg)(a b:Int)(bA:Option Addr)(bn bc:Nat)(bs:List Int)(B:Nat)(w:World)(hc:c.ok w B)(hB:B<=w.heap.size)(hbl:bs.length=bn)(hbn:bn<=bc)(hbm:bc<=maxLen)(hbr:Reads w B 1 bA bn (bs.map (.int .u8)))(hbz:∀z∈bs,0<=z/\z<=255):Calls prog 89 #[c.val,.int .i64 a,.int .i64 b,.slice bA bn bc] w (zDg (dI c a b bs) w):=by
 by_cases h:bG c=true/\(cG c a=true/\cG c b=true)
 ·obtain⟨h1,h2⟩:=h;have ha:0<=a:=by have:=h2.1;unfold cG at this;simp at this;omega
  have hb:0<=b:=by have:=h2.2;unfold cG at this;simp at this;omega
  obtain⟨a,rfl⟩:=qP ha;obtain⟨b,rfl⟩:=qP hb;exact yDv c a b bA bn bc bs B w hc hB hbl hbn hbm hbr hbz h1 h2
 ·exact yBh c a b bA bn bc bs B w hc hB h
theorem fv_le34(bs:List Int)(s i:Nat)(hi:i<=34):fv (bZ bs) s i<=17179869184:=
 Nat.le_of_lt (jQ (zHi _ (zBe bs) s i) (Nat.pow_le_pow_right (by omega) hi:2^i<=2^34))
theorem yBk(bs:List Int)(bA:Option Addr)(bn bc pa gb at0 n:Nat)(B:Nat)(w:World)(hn:n<=34)(hat:at0<=2000000)(hpa:Blk w pa 3 #[.int .i64 at0])(hgb:Blk w gb 55 #[.slice bA bn bc])(hB:B<=pa)(hBw:B<=w.heap.size)(hbl:bs.length=bn)(hbn:bn<=bc)(hbm:bc<=maxLen)(hbr:Reads w B 1 bA bn (bs.map (.int .u8)))(hbz:∀z∈bs,0<=z/\z<=255):Calls prog 98 #[.int .i64 n,.pointer (some ⟨pa,0,none⟩),.pointer (some ⟨gb,0,none⟩)] w λe w'=>e= .returned (.int .i64 (fv (bZ bs) at0 n))/\Only (λk=>k=pa) w w'/\Blk w' pa 3 #[.int .i64 ((at0+n:Nat):Int)]:=by
 have hne:gb≠pa:=hgb.ne_ hpa (by decide);obtain⟨HGB,HNE,HBR,HBZ,HBL,HO0,HP0,HBB⟩:=uO hgb hne hbr hbz hbl (Only.refl (λk=>k=pa) w) hpa (And.intro hB hBw);have hbcm:=hbm;unfold maxLen at hbcm;clear hgb hne hbr hbz hbl hpa hbm hB hBw;go_enter func98,ntmps98;go_wp2_with fail
 go_loopw [0,5] (λx v wr=>∃(i:Nat),i<=n/\x= .int .i64 ((n:Int)-i)/\v= .int .i64 (fv (bZ bs) at0 i)/\uS (Only (λk=>k=pa) w wr)/\uS (Blk wr pa 3 #[.int .i64 ((at0+i:Nat):Int)])) (λx _ _=>(intOf x).toNat)
 case atStart=>exact⟨0,qL _,by go_num,rfl,HO0,HP0⟩
 case round=>
  obtain⟨i,hi,rfl,rfl,HO,HP⟩:=hrel;by_cases hlt:i<n
  ·have hgt:(n:Int)-i>0:=by omega
   have hfv:=fv_le34 bs at0 i (by omega);have hstep:fv (bZ bs) at0 (i+1)=2*fv (bZ bs) at0 i+bZ bs (at0+i):=rfl;obtain⟨V,hV⟩:=kB (fv (bZ bs) at0 i);obtain⟨k,hk⟩:=kB (at0+i);rw[<-hV]at hfv hstep⊢;rw[<-hk]at hstep;have HST:=uT hstep;have hkl:k<=2000034:=by omega
   have c0:wr.cell? ⟨pa,0,none⟩=some (.int .i64 k):=by rw[hk];exact HP.s.cell 0
   have f0:wr.frozen? ⟨pa,0,none⟩=false:=HP.s.frozen 0;have c1:wr.cell? ⟨gb,0,none⟩=some (.slice bA bn bc):=(HGB.s.only HO.s HNE.s).cell 0;have HK:=uT hk;clear hV hk hstep;by_cases hin:k/8<bn
   ·have hrd:Reads wr B 1 bA bn (bs.map (.int .u8)):=HBR.s.below (HO.s.to_below (λx hx _ e=>by have:=HBB.s.1;omega) HBB.s.2);obtain⟨bb,ob,z,hA,_,hz,hcz⟩:=zCv (λz:Int=>Value.int .u8 z) hrd hin;obtain⟨z,rfl⟩:=qP (HBZ.s z (qB hz)).1;have hz255:=(HBZ.s _ (qB hz)).2;have hbit:bZ bs k=z/2^(7-k%8)%2:=by unfold bZ;rw[qG,hz];rfl
    subst hA;have hv:=zXb z (7-k%8) (by omega) (by omega);have hlt8:(k:Int)/8<(bn:Int):=by omega
    have hz2:(0:Int)<=(z:Int)/2^(7-k%8)/\(z:Int)/2^(7-k%8)<=255:=by
     have e:((z:Int)/2^(7-k%8))=((z/2^(7-k%8):Nat):Int):=by simp
     have hd:z/2^(7-k%8)<=z:=Nat.div_le_self _ _;rw[e];exact⟨Int.natCast_nonneg _,by omega⟩
    go_upto_region 6 with fail;go_quiet (fail);have hPn:=HP.s.only (D:=λ_=>False) ((Only.refl _ wr).drewN nq) (λe=>e);have d0:=hPn.cell 0;have d1:=hPn.frozen 0;obtain⟨HOn,HPn⟩:=uI (HO.s.drewN nq) hPn;clear hPn c0 c1 f0;go_wp2_with fail;go_roundw
    case rel=>exact⟨i+1,by omega,by go_num,by rw[show fv (bZ bs) at0 (i+1)=2*V+bZ bs k from HST.s,hbit];go_num,uT (bJ HOn.s 0 _),uT (by have h:=λu=>HPn.s.set_ 0 u;have hk:=HK.s;rw[show((at0+(i+1):Nat):Int)=(at0:Int)+i+1 by omega];exact h _)⟩
    case measure=>simp[intOf];omega
   ·have hbit:bZ bs k=0:=by unfold bZ;rw[qG,qU (by rw[HBL.s];omega)];simp
    have hlt8:decide ((k:Int)/8<(bn:Int))=false:=by simp;omega
    go_wp2_with fail;go_roundw
    case rel=>exact⟨i+1,by omega,by go_num,by rw[show fv (bZ bs) at0 (i+1)=2*V+bZ bs k from HST.s,hbit];go_num,uT (bJ HO.s 0 _),uT (by have h:=HP.s.set_ 0 (.int .i64 ((k:Int)+1));have hk:=HK.s;rw[show(at0+(i+1))=k+1 by omega];exact h)⟩
    case measure=>simp[intOf];omega
  ·obtain rfl:i=n:=by omega
   have HOF:=uT (And.intro HO.s HP.s);have hgt:decide ((i:Int)-i>0)=false:=by simp
   go_wp2_with fail;go_ret;exact⟨rfl,HOF.s.1,HOF.s.2⟩
theorem zTi(c:Cfg)(a b:Int)(bA:Option Addr)(bn bc:Nat)(bs:List Int)(B:Nat)(w:World)(hc:c.ok w B)(hB:B<=w.heap.size)(hbad:¬ (bG c=true/\(cG c a=true/\cG c b=true))):Calls prog 73 #[c.val,.int .i64 a,.int .i64 b,.slice bA bn bc] w (zDg (dI c a b bs) w):=by
 have HMY:=uT (λW (hW:uR w W)=>zBr c B W (hc.below (hW.mono hB)) (qN hB hW.size));have hP1:bG c=false->dI c a b bs=([],4):=λh=>by unfold dI;rw[if_pos h]
 have hP2:bG c=true->(cG c a=false\/cG c b=false)->dI c a b bs=([],2):=λh h2=>by unfold dI;rw[if_neg (by rw[h];simp),if_pos h2]
 have HFIN:=uT (λ(x:Int) W (hW:uR w W) (hp:dI c a b bs=([],x))=>zBg (x:=x) hp hW);generalize dI c a b bs=R at*;obtain⟨HP1,HP2,HBA⟩:=uJ hP1 hP2 hbad;obtain⟨w1,hw1⟩:=kB ((w.alloc (.cells c.cells.toArray 24)).alloc (.cells #[.slice bA bn bc] 55));have hb0:uR w (w.alloc (.cells c.cells.toArray 24)):=(qC _ _).alloc (qA _) _;have hb1:uR w w1:=by rw[hw1];exact hb0.alloc hb0.size _
 obtain⟨p,hp⟩:=kB w.heap.size;have kb:Blk w1 p 24 c.cells.toArray:=by rw[hw1,hp];exact(Blk.new w _ _).below ((qC _ _).alloc (qA _) _) (Blk.new w _ _).lt
 obtain⟨HB1,HW1,HP⟩:=uJ hb1 hw1 hp;have k0:=λ(W:World) (hz:uR w1 W)=>(kb.below hz kb.lt).cell 0
 have k1:=λ(W:World) (hz:uR w1 W)=>(kb.below hz kb.lt).cell 1
 have k2:=λ(W:World) (hz:uR w1 W)=>(kb.below hz kb.lt).cell 2
 have k3:=λ(W:World) (hz:uR w1 W)=>(kb.below hz kb.lt).cell 3
 have k4:=λ(W:World) (hz:uR w1 W)=>(kb.below hz kb.lt).cell 4
 have hz1:uR w1 w1:=qC _ _;clear hb0 hb1 kb hp hw1 hc hP1 hP2 hbad;obtain⟨br,⟨lA,ln,lc,ls⟩,tk,⟨mA,mn,mc,ms⟩,cap⟩:=c;unfold Cfg.cells at HW1 k0 k1 k2 k3 k4;unfold Cfg.val at HMY⊢;unfold cG at HP2 HBA;dsimp only at HMY HW1 HP2 HBA k0 k1 k2 k3 k4⊢;simp only[jH,List.getElem?_cons_zero,jP]at k0 k1 k2 k3 k4;cases hcf:bG ⟨br,⟨lA,ln,lc,ls⟩,tk,⟨mA,mn,mc,ms⟩,cap⟩
 ·rw[hcf]at HMY HP1;clear hcf;go_enter func73,ntmps73;go_upto_region 1 with fail;rw[<-HP.s,<-HW1.s];go_wp2_with fail;refine(HMY.s w1 HB1.s).mono ?_;rintro _ w2 ⟨rfl,hb2⟩;have hz2:uR w1 w2:=hb2;have HB2:=uT (HB1.s.trans (hb2.mono HB1.s.size));clear hb2;go_wp2_with fail;go_ret2;exact HFIN.s _ _ HB2.s (HP1.s trivial)
 rw[hcf]at HMY HP2;have HBA2:=uT (λh=>HBA.s ⟨hcf,h⟩);clear hcf HBA;by_cases d1:a<0
 ·have HPX:=uT (HP2.s rfl (Or.inl (by simp;omega)));clear HP2 HBA2;go_enter func73,ntmps73;go_upto_region 1 with fail;rw[<-HP.s,<-HW1.s];go_wp2_with fail;refine(HMY.s w1 HB1.s).mono ?_;rintro _ w2 ⟨rfl,hb2⟩;have hz2:uR w1 w2:=hb2;have HB2:=uT (HB1.s.trans (hb2.mono HB1.s.size));clear hb2;go_wp2_with fail;go_ret2;exact HFIN.s _ _ HB2.s HPX.s
 by_cases d2:br<=a
 ·have HPX:=uT (HP2.s rfl (Or.inl (by simp;omega)));clear HP2 HBA2;go_enter func73,ntmps73;go_upto_region 1 with fail;rw[<-HP.s,<-HW1.s];go_wp2_with fail;refine(HMY.s w1 HB1.s).mono ?_;rintro _ w2 ⟨rfl,hb2⟩;have hz2:uR w1 w2:=hb2;have HB2:=uT (HB1.s.trans (hb2.mono HB1.s.size));clear hb2;go_wp2_with fail;go_ret2;exact HFIN.s _ _ HB2.s HPX.s
 by_cases d3:b<0
 ·have HPX:=uT (HP2.s rfl (Or.inr (by simp;omega)));clear HP2 HBA2;go_enter func73,ntmps73;go_upto_region 1 with fail;rw[<-HP.s,<-HW1.s];go_wp2_with fail;refine(HMY.s w1 HB1.s).mono ?_;rintro _ w2 ⟨rfl,hb2⟩;have hz2:uR w1 w2:=hb2;have HB2:=uT (HB1.s.trans (hb2.mono HB1.s.size));clear hb2;go_wp2_with fail;go_ret2;exact HFIN.s _ _ HB2.s HPX.s
 by_cases d4:br<=b
 ·have HPX:=uT (HP2.s rfl (Or.inr (by simp;omega)));clear HP2 HBA2;go_enter func73,ntmps73;go_upto_region 1 with fail;rw[<-HP.s,<-HW1.s];go_wp2_with fail;refine(HMY.s w1 HB1.s).mono ?_;rintro _ w2 ⟨rfl,hb2⟩;have hz2:uR w1 w2:=hb2;have HB2:=uT (HB1.s.trans (hb2.mono HB1.s.size));clear hb2;go_wp2_with fail;go_ret2;exact HFIN.s _ _ HB2.s HPX.s
 exact absurd (show(decide (0<=a)&&decide (a<br))=true/\(decide (0<=b)&&decide (b<br))=true by simp;omega) HBA2.s
theorem zIx(f:Nat->Nat)(s a:Nat):∀b,fv f s (a+b)=fv f s a*2^b+fv f (s+a) b
 |0=>by simp[fv]
 |b+1=>by rw[show a+(b+1)=(a+b)+1 by omega,fv,zIx f s a b,fv,Nat.pow_succ,<-Nat.mul_assoc,Nat.add_assoc s a b];omega
theorem yEy(bs:List Int)(j:Nat):∃L G V T H:Nat,fv (bZ bs) (34*j) 1=L/\fv (bZ bs) (34*j+1) 1=G/\fv (bZ bs) (34*j+1+1) 8=V/\fv (bZ bs) (34*j+1+1+8) 21=T/\fv (bZ bs) (34*j+1+1+8+21) 3=H/\ isN (slN bs j)=decide (L=1)/\(L=1->∀x:Nat,zAq x (slN bs j)=⟨x,V,T,H,decide (G=1)⟩)/\V<=255/\T<=2097151/\H<=7/\L<=1/\G<=1:=by
 have h1:=zIx (bZ bs) (34*j) 1 33;have h2:=zIx (bZ bs) (34*j+1) 1 32;have h3:=zIx (bZ bs) (34*j+1+1) 8 24;have h4:=zIx (bZ bs) (34*j+1+1+8) 21 3;have b1:=zHi (bZ bs) (zBe bs) (34*j) 1;have b2:=zHi (bZ bs) (zBe bs) (34*j+1) 1;have b3:=zHi (bZ bs) (zBe bs) (34*j+1+1) 8;have b4:=zHi (bZ bs) (zBe bs) (34*j+1+1+8) 21;have b5:=zHi (bZ bs) (zBe bs) (34*j+1+1+8+21) 3;refine⟨_,_,_,_,_,rfl,rfl,rfl,rfl,rfl,?_⟩;have hs:slN bs j=fv (bZ bs) (34*j) (1+33):=rfl;rw[h1,show(33:Nat)=1+32 from rfl,h2,show(32:Nat)=8+24 from rfl,h3,show(24:Nat)=21+3 from rfl,h4]at hs;generalize fv (bZ bs) (34*j) 1=L at*;generalize fv (bZ bs) (34*j+1) 1=G at*;generalize fv (bZ bs) (34*j+1+1) 8=V at*;generalize fv (bZ bs) (34*j+1+1+8) 21=T at*;generalize fv (bZ bs) (34*j+1+1+8+21) 3=H at*;simp only[show(2:Nat)^(1+(8+(21+3)))=8589934592 from rfl,show(2:Nat)^(8+(21+3))=4294967296 from rfl,show(2:Nat)^(21+3)=16777216 from rfl,show(2:Nat)^3=8 from rfl,show(2:Nat)^1=2 from rfl,show(2:Nat)^8=256 from rfl,show(2:Nat)^21=2097152 from rfl]at hs b1 b2 b3 b4 b5;refine⟨?_,λhL x=> ?_,by omega,by omega,by omega,by omega,by omega⟩
 ·unfold isN;rw[hs]
  congr 1
  rw[eq_iff_iff];omega
 ·unfold zAq;rw[hs];have e1:(L*8589934592+(G*4294967296+(V*16777216+(T*8+H))))/16777216%256=V:=by omega
  have e2:(L*8589934592+(G*4294967296+(V*16777216+(T*8+H))))/8%2097152=T:=by omega
  have e3:(L*8589934592+(G*4294967296+(V*16777216+(T*8+H))))%8=H:=by omega
  have e4:decide ((L*8589934592+(G*4294967296+(V*16777216+(T*8+H))))/4294967296=3)=decide (G=1):=by
   congr 1
   rw[eq_iff_iff];omega
  rw[e1,e2,e3,e4]
theorem OTb.grow0{W w7:World}{base g i g7 cap7:Nat}{S:List EnR}{res:List Ent}{rA:Option Addr}{rc:Nat}{E:Ent}(hT:OTb W base g S)(hi:S[i]? =some ⟨res,rA,rc⟩)(hgr:W.grownBy w7 (Value.slice rA res.length rc).ownBlock)(hown:w7.ownsRow base 125 5 (.slice (some ⟨g7,0,none⟩) (res.length+1) cap7) (res.length+1) (res.flatMap bD++bD E))(hat:some g7=(Value.slice rA res.length rc).ownBlock\/g7=W.heap.size+1):w7.cell? ⟨g,i,none⟩=some (.slice rA res.length rc)/\w7.frozen? ⟨g,i,none⟩=false/\OTb (w7.setCell ⟨g,i,none⟩ (.slice (some ⟨g7,0,none⟩) (res.length+1) cap7)) base g (S.set i ⟨res++[E],some ⟨g7,0,none⟩,cap7⟩)/\∀(pa:Nat) (t:TypeId) (cs:Array Value),Blk W pa t cs->t≠125->t≠103->∀u,Blk (w7.setCell ⟨g,i,none⟩ u) pa t cs:=by
 have hO:=hT.rows _ (qB hi);have hbk:=hT.blk.grown hgr (zEa hO hT.blk (by decide));refine⟨?_,hbk.frozen i,?_,λpa t cs hb h1 h2 u=> ?_⟩
 ·rw[hbk.cell];simp[hi,EnR.val]
 ·have h:=hT.push (r:=⟨res,rA,rc⟩) (r':=⟨res++[E],some ⟨g7,0,none⟩,cap7⟩) hi hgr (by simpa[EnR.val,jN]using hown) (by
   rcases hat with e|e
   ·exact .inl (by simpa[EnR.val,Value.ownBlock]using e)
   ·exact .inr ⟨g7,rfl,by omega⟩)
  simpa[EnR.val]using h
 ·exact(hb.grown hgr (zEa hO hb λe=>h1 e.symm)).far (λe:pa=g=>hb.ne_ hT.blk h2 e) u
theorem OTb.take{w w':World}{base g pa:Nat}{S:List EnR}{cs:Array Value}(h:OTb w base g S)(hp:Blk w pa 3 cs)(ho:Only (λk=>k=pa) w w'):OTb w' base g S:=
 h.only ho (λe=>h.blk.ne_ hp (by decide) e) λr hr k hk e=>bC (h.rows r hr) hp (by decide) (by rw[hk,e])
theorem yDz(c:Cfg)(a b:Int)(rows:List (List Ent)):∀z∈(bT c a b rows).1,0<=z/\z<=255:=by
 intro z hz;unfold bT at hz
 split at hz
 ·cases hz
 split at hz
 ·cases hz
 split at hz
 ·cases hz
 split at hz
 ·cases hz
 split at hz
 ·cases hz
 ·unfold bytesOf at hz;obtain⟨i,_,rfl⟩:=jC.1 hz;have:=zDl (bH (dS rows (bM a.toNat b.toNat c.la.zs 0))) (zBw _) i;omega
def TkPost(wb:World)(pa v at1:Nat)(W:World)(e:Ending)(w':World):Prop:=e= .returned (.int .i64 v)/\Only (λk=>k=pa) W w'/\Blk w' pa 3 #[.int .i64 ((at1:Nat):Int)]/\uR wb w'
theorem zWp(c:Cfg)(a b:Nat)(bA:Option Addr)(bn bc:Nat)(bs:List Int)(B:Nat)(w:World)(hc:c.ok w B)(hB:B<=w.heap.size)(hbl:bs.length=bn)(hbn:bn<=bc)(hbm:bc<=maxLen)(hbr:Reads w B 1 bA bn (bs.map (.int .u8)))(hbz:∀z∈bs,0<=z/\z<=255)(hcf:bG c=true)(hab:cG c a=true/\cG c b=true):Calls prog 73 #[c.val,.int .i64 a,.int .i64 b,.slice bA bn bc] w (zDg (dI c a b bs) w):=by
 obtain⟨b1,b2,b3,b4⟩:=zFq hcf;have ha8:a<=8:=by have:=hab.1;unfold cG at this;simp at this;omega
 have hb8:b<=8:=by have:=hab.2;unfold cG at this;simp at this;omega
 have hab':=hab;unfold cG at hab';simp only[qT,decide_eq_true_eq]at hab';have hll:=hc.1.1;have hln4:c.la.n<=4:=by omega
 have hisl:=zGa a b c.la.zs 0;have HHP:=uT (show dI c a b bs=if(bT c a b (dL bs (bM a b c.la.zs 0) c.la.n (8*(bM a b c.la.zs 0).length))).2=0/\(bT c a b (dL bs (bM a b c.la.zs 0) c.la.n (8*(bM a b c.la.zs 0).length))).1=bs then(dL bs (bM a b c.la.zs 0) c.la.n (8*(bM a b c.la.zs 0).length),0)else([],4)by
  have h:=yGk c a b bs hbz hcf hab (bM a b c.la.zs 0) rfl _ rfl;rw[hll]at h;unfold dI;rw[if_neg (by rw[hcf];simp),if_neg (by rw[hab.1,hab.2];simp),qR,qR,hll];by_cases h1:bs.length=34*(bM a b c.la.zs 0).length
  ·rw[if_neg (by simpa using h1)];by_cases h2:zDz bs (bM a b c.la.zs 0).length=true
   ·rw[if_pos h2,if_pos (h.2 ⟨h1,h2⟩)]
   ·rw[if_neg h2,if_neg λh3=>h2 (h.1 h3).2]
  ·rw[if_pos (by simpa using h1),if_neg λh3=>h1 (h.1 h3).1])
 have HMY:=uT (λW (hW:uR w W)=>zBr c B W (hc.below (hW.mono hB)) (qN hB hW.size));rw[hcf]at HMY;obtain⟨HRU,HLR,HLL,HZ,HBRD,HBZ,HBL⟩:=uN (λW (t:TabR) (hW:uR w W) (ht:TabOk W W.heap.size t)=>zMg c a b t W.heap.size W ((hc.below (hW.mono hB)).more (qN hB hW.size)) ht (qA _)) (hc.1.2.2.2.more hB) hll b4 (hbr.more hB) hbz hbl;obtain⟨iE,hiE,hzE,hsE,hyE⟩:∃i,prog.info? 125=some i/\i.zero=some (.agg #[.int .i64 0,.int .i64 0,.int .i64 0,.int .i64 0,.bool false])/\i.size=5/\i.bytes=40:=gB (by kernel_rfl);obtain⟨iL,hiL,zL,hzL,hcL,hsL,hyL⟩:∃i,prog.info? 103=some i/\∃z,i.zero=some z/\z.cells.toList=[Value.slice none 0 0]/\i.size=1/\i.bytes=24:=zAb (by kernel_rfl);obtain⟨w1,hw1⟩:=kB ((w.alloc (.cells c.cells.toArray 24)).alloc (.cells #[.slice bA bn bc] 55));have hb0:uR w (w.alloc (.cells c.cells.toArray 24)):=(qC _ _).alloc (qA _) _;have hb1:uR w w1:=by rw[hw1];exact hb0.alloc hb0.size _
 obtain⟨p,hp⟩:=kB w.heap.size;have kb:Blk w1 p 24 c.cells.toArray:=by rw[hw1,hp];exact(Blk.new w _ _).below ((qC _ _).alloc (qA _) _) (Blk.new w _ _).lt
 have kg:Blk w1 (p+1) 55 #[.slice bA bn bc]:=by rw[hw1,hp];have h:=Blk.new (w.alloc (.cells c.cells.toArray 24)) 55 #[.slice bA bn bc];simpa using h
 have hpw:=hp;obtain⟨HB1,HW1,HP,HKG⟩:=uK hb1 hw1 hp kg;have k0:=λ(W:World) (hz:uR w1 W)=>(kb.below hz kb.lt).cell 0
 have k1:=λ(W:World) (hz:uR w1 W)=>(kb.below hz kb.lt).cell 1
 have k2:=λ(W:World) (hz:uR w1 W)=>(kb.below hz kb.lt).cell 2
 have k3:=λ(W:World) (hz:uR w1 W)=>(kb.below hz kb.lt).cell 3
 have k4:=λ(W:World) (hz:uR w1 W)=>(kb.below hz kb.lt).cell 4
 have kg0:=λ(W:World) (hz:uR w1 W)=>(kg.below hz kg.lt).cell 0
 have hz1:uR w1 w1:=qC _ _;have hbcm:=hbm;unfold maxLen at hbcm;clear hb0 hb1 kb kg hp hpw hw1 hc hcf hab b1 b2 b3 b4 hll hbr hbz hbl;obtain⟨br,⟨lA,ln,lc,ls⟩,tk,⟨mA,mn,mc,ms⟩,cap⟩:=c;dsimp only at hln4 hisl;have hmk:=λW=>dN (P:=prog) 78 103 iL _ underlying78 hiL hzL .i64 .i64 ln ln (qA _) (by rw[hyL];omega) (by omega) W
 rw[hsL,Nat.mul_one,zGy ln zL.cells hcL]at hmk;have HMK:=uT hmk;clear hmk hzL hcL hsL hyL hiL;unfold Cfg.cells at HW1 k0 k1 k2 k3 k4;unfold Cfg.val at HMY HRU⊢;dsimp only at HMY HW1 HLR HLL HZ HHP HRU k0 k1 k2 k3 k4 hab'⊢;simp only[jH,List.getElem?_cons_zero,jP]at k0 k1 k2 k3 k4;obtain⟨⟨_,g1⟩,⟨_,g2⟩⟩:=hab';have g3:decide (br<=(a:Int))=false:=by simp;exact g1
 have g4:decide (br<=(b:Int))=false:=by simp;exact g2
 have g5:decide ((a:Int)<0)=false:=by simp
 have g6:decide ((b:Int)<0)=false:=by simp
 have HIL:=uT (show(bM a b ls 0).length<=4 by have:=HLL.s;omega);clear g1 g2 hisl;go_enter func73,ntmps73;go_upto_region 1 with fail;rw[<-HP.s,<-HW1.s];go_wp2_with fail;refine(HMY.s w1 HB1.s).mono ?_;rintro _ w2 ⟨rfl,hb2⟩;have hz2:uR w1 w2:=hb2;clear hb2 hz1;go_upto_region 7 with fail;have hzA:uR w1 (w2.alloc (.cells #[.int .i64 0] 3)):=hz2.alloc hz2.size _;obtain⟨wa,hwa⟩:=kB (w2.alloc (.cells #[.int .i64 0] 3));obtain⟨pa,hpa⟩:=kB w2.heap.size;have kA:Blk wa pa 3 #[.int .i64 0]:=by rw[hwa,hpa];exact Blk.new _ _ _
 have hpl:w1.heap.size<=pa:=by rw[hpa];exact hz2.size
 rw[<-hwa]at hzA;rw[<-hwa,<-hpa];clear hwa hpa;have hk8:=HMK.s wa;obtain⟨w9,hw9⟩:=kB (wa.alloc (.cells (zAy ln) 103));have hb9:=uH hw9;obtain⟨g,hg⟩:=kB wa.heap.size;have k9:Blk w9 g 103 (zAy ln):=by rw[hw9,hg];exact Blk.new _ _ _
 obtain⟨HT9,HA9⟩:=uI (OTb.new k9 (show w1.heap.size<=g by rw[hg];exact hzA.size)) (kA.below hb9 kA.lt);have hz9:uR w1 w9:=hzA.trans (hb9.mono hzA.size);have HPL:=uT hpl;rw[<-hw9,<-hg]at hk8;clear hw9 hb9 k9 hg kA hpl;have HTK:=uT (λ(W:World) (at0 n:Nat) (hn:n<=34) (hat:at0<=2000000) (hP:Blk W pa 3 #[.int .i64 ((at0:Nat):Int)]) (hW:uR w1 W)=>
  show Calls prog 98 #[.int .i64 (n:Int),.pointer (some ⟨pa,0,none⟩),.pointer (some ⟨p+1,0,none⟩)] W (TkPost w1 pa (fv (bZ bs) at0 n) (at0+n) W)from
   (yBk bs bA bn bc pa (p+1) at0 n w.heap.size W hn hat hP (HKG.s.below hW HKG.s.lt) (qN HB1.s.size HPL.s) (qN HB1.s.size hW.size) HBL.s hbn hbm (HBRD.s.below (HB1.s.trans (hW.mono HB1.s.size))) HBZ.s).mono
    λe w' ⟨h1,h2,h3⟩=>⟨h1,h2,h3,Below.only hW h2 (λx hx e=>by have:=HPL.s;omega) hW.size⟩)
 go_upto_region 8 with fail;clear hk8 hzA;obtain⟨IS,hIS⟩:=kB (bM a b ls 0);have HIS:=uT hIS;rw[<-hIS]at HHP HIL;clear hIS;go_wp2_with fail
 go_loopw [52] (λj W=>∃(i c:Nat) (S:List EnR),i<=ln/\c<=i/\j= .int .i64 i/\uS ((bM a b (ls.take i) 0).length=c)/\uS (OTb W w1.heap.size g S)/\uS (S.map EnR.es=dL bs IS ln (8*c))/\uS (Blk W pa 3 #[.int .i64 ((34*(8*c):Nat):Int)])/\uR w1 W) (λj _=>ln-(intOf j).toNat)
 case atStart=>exact⟨0,0,_,qL _,qL _,rfl,uT rfl,HT9,uT (by simp[dL,EnR.nil]),HA9,hz9⟩
 case round=>
  obtain⟨i,c,S,hi,hci,rfl,HC,HT,HSR,HP',hz⟩:=hrel;by_cases hik:i<ln
  ·obtain⟨bl,ol,z,rfl,hbl,hzl,hcl⟩:=dQ (HLR.s.below (HB1.s.trans (hz.mono HB1.s.size))) hik;have hzz:=HZ.s z (qB hzl);obtain⟨z,rfl⟩:=qP hzz.1;have hz255:z<=255:=by omega
   have hlk:(ls.take i).length=i:=by rw[qY,HLL.s];omega
   have HTK2:=uT (show bM a b (ls.take (i+1)) 0=bM a b (ls.take i) 0++(if z.testBit a&&z.testBit b then [i]else [])by rw[dB ls i _ hzl,zKa,qR,hlk,Nat.zero_add])
   obtain⟨HI1,HI2⟩:=uI (λW=>zHn z a W hz255 (by omega)) (λW=>zHn z b W hz255 (by omega));have hik':(i:Int)<(ln:Int):=by omega
   clear hzz hzl hlk hbl;cases hb1:z.testBit a
   ·rw[hb1]at HI1 HTK2;clear hb1;rw[Bool.false_and,if_neg (by simp),jR]at HTK2;go_wp2_with fail;refine(HI1.s _).mono ?_;rintro _ _ ⟨rfl,rfl⟩;go_wp2_with fail;go_roundw
    case rel=>exact⟨i+1,c,S,by omega,by omega,by go_num,uT (by rw[HTK2.s];exact HC.s),HT,HSR,HP',hz⟩
    case measure=>simp[intOf];omega
   ·rw[hb1]at HI1 HTK2;clear hb1;cases hb2:z.testBit b
    ·rw[hb2]at HI2 HTK2;clear hb2;rw[Bool.and_false,if_neg (by simp),jR]at HTK2;go_wp2_with fail;refine(HI1.s _).mono ?_;rintro _ _ ⟨rfl,rfl⟩;go_wp2_with fail;refine(HI2.s _).mono ?_;rintro _ _ ⟨rfl,rfl⟩;go_wp2_with fail;go_roundw
     case rel=>exact⟨i+1,c,S,by omega,by omega,by go_num,uT (by rw[HTK2.s];exact HC.s),HT,HSR,HP',hz⟩
     case measure=>simp[intOf];omega
    ·rw[hb2]at HI2 HTK2;clear hb2;rw[Bool.true_and,if_pos rfl]at HTK2;have HISC:=uT (show IS[c]? =some i by have h1:=zHw a b (ls.take (i+1)) (ls.drop (i+1)) 0;rw[jW,<-HIS.s]at h1;rw[h1,HTK2.s,jK,uG (by rw[HC.s];exact qA _),HC.s,Nat.sub_self];rfl)
     have hc4:c<4:=by have h1:=(qK.1 HISC.s).1;have:=HIL.s;omega
     go_wp2_with fail;refine(HI1.s _).mono ?_;rintro _ _ ⟨rfl,rfl⟩;go_wp2_with fail;refine(HI2.s _).mono ?_;rintro _ _ ⟨rfl,rfl⟩;go_wp2_with fail
     go_loopw [15] (λx W=>∃(k:Nat) (S:List EnR),k<=8/\x= .int .i64 k/\uS (OTb W w1.heap.size g S)/\uS (S.map EnR.es=dL bs IS ln (8*c+k))/\uS (Blk W pa 3 #[.int .i64 ((34*(8*c+k):Nat):Int)])/\uR w1 W) (λx _=>8-(intOf x).toNat)
     case atStart=>exact⟨0,S,qL _,rfl,HT,HSR,HP',hz⟩
     case round=>
      obtain⟨k,S,hk,rfl,HT,HSR,HP',hz⟩:=hrel;by_cases hk8:k<8
      ·obtain⟨L,G,V,T,H,e1,e2,e3,e4,e5,hIsN,hDec,hV,hT,hH,hL,hG⟩:=yEy bs (8*c+k);obtain⟨j,hj⟩:=kB (8*c+k);rw[<-hj]at e1 e2 e3 e4 e5 hIsN hDec HSR HP';have hj32:j<32:=by omega
       obtain⟨HT1,HT2,HT3,HT4,HT5⟩:=uL (λW (hP:Blk W pa 3 #[.int .i64 ((34*j:Nat):Int)]) hW=>HTK.s W (34*j) 1 (by omega) (by omega) hP hW) (λW (hP:Blk W pa 3 #[.int .i64 ((34*j+1:Nat):Int)]) hW=>HTK.s W (34*j+1) 1 (by omega) (by omega) hP hW) (λW (hP:Blk W pa 3 #[.int .i64 ((34*j+1+1:Nat):Int)]) hW=>HTK.s W (34*j+1+1) 8 (by omega) (by omega) hP hW) (λW (hP:Blk W pa 3 #[.int .i64 ((34*j+1+1+8:Nat):Int)]) hW=>HTK.s W (34*j+1+1+8) 21 (by omega) (by omega) hP hW) (λW (hP:Blk W pa 3 #[.int .i64 ((34*j+1+1+8+21:Nat):Int)]) hW=>HTK.s W (34*j+1+1+8+21) 3 (by omega) (by omega) hP hW);rw[e1]at HT1;rw[e2]at HT2;rw[e3]at HT3;rw[e4]at HT4;rw[e5]at HT5;obtain⟨HJ,HISN,HDEC⟩:=uJ hj hIsN hDec;clear e1 e2 e3 e4 e5 hj hIsN hDec;go_wp2_with fail;refine(HT1.s _ HP'.s hz).mono ?_;rintro _ wa ⟨rfl,ho,kp,hza⟩;obtain⟨HTaa,HKa⟩:=uI (HT.s.take HP'.s ho) kp;clear ho kp;go_wp2_with fail;refine(HT2.s _ HKa.s hza).mono ?_;rintro _ wb ⟨rfl,ho,kp,hzb⟩;obtain⟨HTbb,HKb⟩:=uI (HTaa.s.take HKa.s ho) kp;clear ho kp;go_wp2_with fail;refine(HT3.s _ HKb.s hzb).mono ?_;rintro _ wc ⟨rfl,ho,kp,hzc⟩;obtain⟨HTcc,HKc⟩:=uI (HTbb.s.take HKb.s ho) kp;clear ho kp;go_wp2_with fail;refine(HT4.s _ HKc.s hzc).mono ?_;rintro _ wd ⟨rfl,ho,kp,hzd⟩;obtain⟨HTdd,HKd⟩:=uI (HTcc.s.take HKc.s ho) kp;clear ho kp;go_wp2_with fail;refine(HT5.s _ HKd.s hzd).mono ?_;rintro _ we ⟨rfl,ho,kp,hze⟩;obtain⟨HTee,HKe⟩:=uI (HTdd.s.take HKd.s ho) kp;clear ho kp;clear HT1 HT2 HT3 HT4 HT5 HTaa HTbb HTcc HTdd HKa HKb HKc HKd hza hzb hzc hzd;have HKE:=uT (show Blk we pa 3 #[.int .i64 ((34*(8*c+(k+1)):Nat):Int)]by have h:=HKe.s;rw[show 34*j+1+1+8+21+3=34*(8*c+(k+1))by have:=HJ.s;omega]at h;exact h)
       have HRN:=uT (show dL bs IS ln (8*c+(k+1))=if isN (slN bs j)then zHm (dL bs IS ln j) i (zAq k (slN bs j))else dL bs IS ln j by rw[<-Nat.add_assoc,<-HJ.s,dL,qG,show j/8=c by have:=HJ.s;omega,HISC.s,show j%8=k by have:=HJ.s;omega];rfl)
       clear HKe;by_cases hL1:L=1
       ·have hE:=HDEC.s hL1 k;rw[show decide (G=1)=((G:Int)==1)by rw[Bool.eq_iff_iff];simp;omega]at hE;have HRN2:=uT (show dL bs IS ln (8*c+(k+1))=zHm (dL bs IS ln j) i ⟨(k:Int),(V:Int),(T:Int),(H:Int),((G:Int)==1)⟩by rw[HRN.s,if_pos (by rw[HISN.s];simpa using hL1),hE]);have hsi:S[i]? =some (S[i]'(by have h:=congrArg List.length HSR.s;rw[qQ,zBx]at h;omega)):=qI _;generalize S[i]'(by have h:=congrArg List.length HSR.s;rw[qQ,zBx]at h;omega)=r at hsi;have hgd:(dL bs IS ln j).getD i []=r.es:=by rw[<-HSR.s,qG,qV,hsi];rfl
        have hrl:r.es.length<=8:=by
         have hnd:IS.Nodup:=by rw[HIS.s];exact zDf _ _ _ _
         have hlt:∀i∈IS,i<ln:=λi hi=>by rw[HIS.s]at hi;have:=zCp _ _ _ _ i hi;have:=HLL.s;omega
         rw[<-hgd,(zFt bs IS ln IS.length rfl hnd hlt j (by have:=(qK.1 HISC.s).1;have:=HJ.s;omega)).1 c i HISC.s];exact qN (zFg _ _ _) (Nat.min_le_left _ _)
        have hL0:((L:Int)==1)=true:=by simp;omega
        obtain⟨res,rA,rc⟩:=r;dsimp only at hgd hrl;have g6:we.cell? ⟨g,i,none⟩=some (.slice rA res.length rc):=HTee.s.cell hsi;have hilt:(i:Int)<(ln:Int):=by omega
        obtain⟨HHI,HGD,HRL⟩:=uJ hsi hgd hrl;clear hsi hgd hrl hE hL1;have HROW:=uT (HTee.s.rows _ (qB HHI.s));have hown:we.ownsRow w1.heap.size 125 5 (.slice rA res.length rc) res.length (res.flatMap bD):=HROW.s;have HOWN:=uT hown;have hmq:(res.length+1)*40<=140737488355328:=by have:=HRL.s;omega
        have HMQ:=uT hmq;have hsW':=hze.size;clear hown hmq;go_wp2_with(first
         |(at_builtin;(refine bF we rfl (.tmp 88) (.tmp 96) _ rfl w1.heap.size 125 iE _ 5 40 underlying103 hiE hzE hsE hyE rfl (by omega) (by omega) _ _ _ HOWN.s rfl _ 1 _ rfl rfl rfl (by simp[Value.oneCell']) HMQ.s hsW' ?_);intro g7 cap7 w7 hg7 hown7 hbel7 hgr7 hat7
           obtain⟨u0,u1,ht8,hpp⟩:=HTee.s.grow0 (E:=⟨k,V,T,H,((G:Int)==1)⟩) HHI.s hgr7 hown7 hat7;have hgl:=HTee.s.low;obtain⟨HT8,HP8,HZ8⟩:=uJ ht8 (hpp pa _ _ HKE.s (by decide) (by decide) (.slice (some ⟨g7,0,none⟩) (res.length+1) cap7)) ((hbel7 w1.heap.size w1 (qA _) hze).setCell (p:=⟨g,i,none⟩) hgl (.slice (some ⟨g7,0,none⟩) (res.length+1) cap7));clear hg7 hown7 hbel7 hgr7 hat7 hpp ht8 hgl))
        go_roundw
        case rel=>exact⟨k+1,_,by omega,by go_num,HT8,uT (by rw[HRN2.s,zHm,HGD.s,List.map_set,HSR.s]),HP8,HZ8.s⟩
        case measure=>simp[intOf];omega
       ·have hL0:((L:Int)==1)=false:=by simp;omega
        have HRN2:=uT (show dL bs IS ln (8*c+(k+1))=dL bs IS ln j by rw[HRN.s,if_neg (by rw[HISN.s];simpa using hL1)]);clear hL1;go_wp2_with fail;go_roundw
        case rel=>exact⟨k+1,S,by omega,by go_num,HTee,uT (by rw[HRN2.s];exact HSR.s),HKE,hze⟩
        case measure=>simp[intOf];omega
      ·obtain rfl:k=8:=by omega
       go_wp2_with fail;go_roundw
       case rel=>exact⟨i+1,c+1,S,by omega,by omega,by go_num,uT (by rw[HTK2.s,qM,HC.s];rfl),HT,HSR,HP',hz⟩
       case measure=>simp[intOf];omega
  ·obtain rfl:i=ln:=by omega
   have hcl:c=IS.length:=by have h:=HC.s;rw[qS (by rw[HLL.s];exact qA _),<-HIS.s]at h;exact h.symm
   have hSl:S.length=i:=by have h:=congrArg List.length HSR.s;rw[qQ,zBx]at h;exact h
   obtain⟨t,ht⟩:∃t:TabR,t=⟨S,some ⟨g,0,none⟩,i⟩:=⟨_,rfl⟩;have hte:t.es=dL bs IS i (8*IS.length):=by rw[ht,<-hcl];exact HSR.s
   have htv:t.val= .slice (some ⟨g,0,none⟩) i i:=by rw[ht];unfold TabR.val;dsimp only;rw[hSl]
   have htr:TabRd wr wr.heap.size t:=by rw[ht];refine⟨?_,λr hr=>Reads.of_own (HT.s.rows r hr)⟩;have h:=gQ HT.s.blk HT.s.blk.lt;simpa using h
   have hto:TabOk wr wr.heap.size t:=⟨htr,by rw[ht];dsimp only;rw[hSl];unfold maxLen;omega,λr hr=>by rw[ht]at hr;have h:=fH (HT.s.rows r hr);omega⟩
   have hwz:uR w wr:=HB1.s.trans (hz.mono HB1.s.size);have HRM:=uT (HRU.s wr t hwz hto);rw[hte]at HRM;obtain⟨HMI,HTR,HTE,HTV⟩:=uK (show TabMine w.heap.size wr t from by rw[ht];exact⟨Or.inr ⟨g,qN HB1.s.size HT.s.low,rfl,HT.s.blk⟩,λr hr=>dU (HT.s.rows r hr) HB1.s.size⟩) htr hte htv;rw[htv]at HRM;unfold zCa at HRM;have HWZ:=uT hwz;clear hcl hSl ht hte htv htr hto hwz HRU HT HSR;have HU8:=uT (yDz ⟨br,⟨lA,i,lc,ls⟩,tk,⟨mA,mn,mc,ms⟩,cap⟩ a b (dL bs IS i (8*IS.length)));generalize bT ⟨br,⟨lA,i,lc,ls⟩,tk,⟨mA,mn,mc,ms⟩,cap⟩ a b (dL bs IS i (8*IS.length))=R at*;obtain⟨rb,rc⟩:=R;dsimp only at HRM HHP HU8;go_wp2_with fail;refine HRM.s.mono ?_;rintro _ wy ⟨vy,rfl,hoy,hby⟩;obtain⟨Ay,cy,rfl,_⟩:=bE hoy;have hzy:=hz.trans (hby.mono hz.size);obtain⟨HBY,HTY,HMY,HTYS,HSB⟩:=uL (HWZ.s.trans (hby.mono HWZ.s.size)) (HTR.s.below hby) (HMI.s.below hby) hby.size (Reads.of_own hoy);clear hoy hby;have HBA:=uT (HBRD.s.below HBY.s|>.more HBY.s.size);by_cases hr0:rc=0
   ·have HSA:=uT (zPu Ay bA rb.length bn cy bc rb bs wy.heap.size wy rfl HBL.s HU8.s HBZ.s HSB.s HBA.s);by_cases hrb:rb=bs
    ·have HFI:=uT (show dI ⟨br,⟨lA,i,lc,ls⟩,tk,⟨mA,mn,mc,ms⟩,cap⟩ a b bs=(dL bs IS i (8*IS.length),0)by rw[HHP.s,if_pos ⟨hr0,hrb⟩]);have hss:zHf rb bs=true:=by unfold zHf;simpa using hrb
     rw[hss]at HSA;clear hss hrb HHP;subst hr0;go_wp2_with fail;refine HSA.s.mono ?_;rintro _ _ ⟨rfl,rfl⟩;go_wp2_with fail;go_ret2;unfold zDg;rw[HFI.s];exact⟨t,by rw[HTV.s];rfl,HTE.s,HTY.s.more HTYS.s,HBY.s,HMY.s⟩
    ·have HFI:=uT (show dI ⟨br,⟨lA,i,lc,ls⟩,tk,⟨mA,mn,mc,ms⟩,cap⟩ a b bs=([],4)by rw[HHP.s,if_neg λh=>hrb h.2]);have hss:zHf rb bs=false:=by unfold zHf;simpa using hrb
     rw[hss]at HSA;clear hss hrb HHP;subst hr0;go_wp2_with fail;refine HSA.s.mono ?_;rintro _ _ ⟨rfl,rfl⟩;go_wp2_with fail;go_ret2;exact zBg HFI.s HBY.s
   ·have HFI:=uT (show dI ⟨br,⟨lA,i,lc,ls⟩,tk,⟨mA,mn,mc,ms⟩,cap⟩ a b bs=([],4)by rw[HHP.s,if_neg λh=>hr0 h.1]);have hr1:(rc !=0)=true:=by simpa using hr0
    clear hr0 HHP;go_wp2_with fail;go_ret2;exact zBg HFI.s HBY.s
end Go.Proofs.YtbolcebmbpepdaaGreatDoor
