/- Contracts. Conditions: those each states. -/
import Derived.Test.YtbolcebmbpepdaaGreatDoorM12
import Derived.Test.YtbolcebmbpepdaaGreatDoorM03
namespace Go.Proofs.YtbolcebmbpepdaaGreatDoor
set_option maxRecDepth 100000
set_option maxHeartbeats 8000000
set_option linter.all false
open Go.RowKit Tryz
section
open Go.RowKit Go.ChangeShapes Go.WideShapes Go.Deep
structure Ent where
 key:Int
 value:Int
 time:Int
 who:Int
 gone:Bool
deriving DecidableEq
def bD(e:Ent):List Value:=[.int .i64 e.key,.int .i64 e.value,.int .i64 e.time,.int .i64 e.who,.bool e.gone]
theorem cN(e:Ent):(bD e).length=5:=rfl
def inP(n m:Int):Bool:=decide (0<=n)&&decide (n<=m)
def gJ(e:Ent):Bool:=inP e.key 1048576&&inP e.value 1048576&&inP e.time 1048576&&inP e.who 7&& !(e.gone&&decide (0<e.value))
def zCe(e:Ent):Value:= .agg #[.int .i64 e.key,.int .i64 e.value,.int .i64 e.time,.int .i64 e.who,.bool e.gone]
theorem zJr(n m:Int)(w:World):Calls prog 143 #[.int .i64 n,.int .i64 m] w λe w'=>e= .returned (.bool (inP n m))/\w=w':=by
 by_cases h0:0<=n
 ·have HF:=uT (show inP n m=decide (n<=m)by simp[inP,h0]);go_enter func143,ntmps143
  go_wp2
  go_ret;exact⟨bQ (by rw[HF.s]),rfl⟩
 ·have HF:=uT (show inP n m=false by simp[inP,h0]);go_enter func143,ntmps143
  go_wp2
  go_ret;exact⟨bQ (by rw[HF.s]),rfl⟩
theorem yCz(e:Ent)(w:World):Calls prog 128 #[zCe e] w λx w'=>x= .returned (.bool (gJ e))/\w.alloc (.cells (bD e).toArray 125)=w':=by
 obtain⟨k,v,t,o,g⟩:=e;obtain⟨H1,H2,H3,H4,HF⟩:=uL (λW=>zJr k 1048576 W) (λW=>zJr v 1048576 W) (λW=>zJr t 1048576 W) (λW=>zJr o 7 W) (show gJ ⟨k,v,t,o,g⟩=(inP k 1048576&&inP v 1048576&&inP t 1048576&&inP o 7&& !(g&&decide (0<v)))from rfl);obtain⟨b1,h1⟩:∃b,inP k 1048576=b:=⟨_,rfl⟩;obtain⟨b2,h2⟩:∃b,inP v 1048576=b:=⟨_,rfl⟩;obtain⟨b3,h3⟩:∃b,inP t 1048576=b:=⟨_,rfl⟩;obtain⟨b4,h4⟩:∃b,inP o 7=b:=⟨_,rfl⟩;rw[h1]at H1;rw[h2]at H2;rw[h3]at H3;rw[h4]at H4;rw[h1,h2,h3,h4]at HF;clear h1 h2 h3 h4;unfold zCe bD;cases b1
 ·skip
  go_enter func128,ntmps128;go_wp2_with fail;refine(H1.s _).mono ?_;rintro _ _ ⟨rfl,rfl⟩;go_wp2_with fail;go_ret;exact⟨bQ (by rw[HF.s];rfl),rfl⟩
 cases b2
 ·skip
  go_enter func128,ntmps128;go_wp2_with fail;refine(H1.s _).mono ?_;rintro _ _ ⟨rfl,rfl⟩;go_wp2_with fail;refine(H2.s _).mono ?_;rintro _ _ ⟨rfl,rfl⟩;go_wp2_with fail;go_ret;exact⟨bQ (by rw[HF.s];rfl),rfl⟩
 cases b3
 ·skip
  go_enter func128,ntmps128;go_wp2_with fail;refine(H1.s _).mono ?_;rintro _ _ ⟨rfl,rfl⟩;go_wp2_with fail;refine(H2.s _).mono ?_;rintro _ _ ⟨rfl,rfl⟩;go_wp2_with fail;refine(H3.s _).mono ?_;rintro _ _ ⟨rfl,rfl⟩;go_wp2_with fail;go_ret;exact⟨bQ (by rw[HF.s];rfl),rfl⟩
 cases b4
 ·skip
  go_enter func128,ntmps128;go_wp2_with fail;refine(H1.s _).mono ?_;rintro _ _ ⟨rfl,rfl⟩;go_wp2_with fail;refine(H2.s _).mono ?_;rintro _ _ ⟨rfl,rfl⟩;go_wp2_with fail;refine(H3.s _).mono ?_;rintro _ _ ⟨rfl,rfl⟩;go_wp2_with fail;refine(H4.s _).mono ?_;rintro _ _ ⟨rfl,rfl⟩;go_wp2_with fail;go_ret;exact⟨bQ (by rw[HF.s];rfl),rfl⟩
 cases g
 ·skip
  go_enter func128,ntmps128;go_wp2_with fail;refine(H1.s _).mono ?_;rintro _ _ ⟨rfl,rfl⟩;go_wp2_with fail;refine(H2.s _).mono ?_;rintro _ _ ⟨rfl,rfl⟩;go_wp2_with fail;refine(H3.s _).mono ?_;rintro _ _ ⟨rfl,rfl⟩;go_wp2_with fail;refine(H4.s _).mono ?_;rintro _ _ ⟨rfl,rfl⟩;go_wp2_with fail;go_ret;exact⟨bQ (by rw[HF.s];rfl),rfl⟩
 go_enter func128,ntmps128;go_wp2_with fail;refine(H1.s _).mono ?_;rintro _ _ ⟨rfl,rfl⟩;go_wp2_with fail;refine(H2.s _).mono ?_;rintro _ _ ⟨rfl,rfl⟩;go_wp2_with fail;refine(H3.s _).mono ?_;rintro _ _ ⟨rfl,rfl⟩;go_wp2_with fail;refine(H4.s _).mono ?_;rintro _ _ ⟨rfl,rfl⟩;go_wp2_with fail;go_ret;exact⟨bQ (by rw[HF.s];rfl),rfl⟩
end
def zEw(a b:Int):Int:=if a<b then-1 else if b<a then 1 else 0
def zOg(b:Bool):Int:=if b then 1 else 0
def orP:List Int->Int
 |[]=>0
 |z::l=>if z≠0 then z else orP l
def zQr(a b:Ent):List Int:=[zEw a.time b.time,zEw a.who b.who,zEw (zOg b.gone) (zOg a.gone),zEw a.value b.value]
def zDe(a b:Ent):Bool:=decide (0<orP (zQr a b))
theorem yHk(x:Int)(w:World):Calls prog 152 #[.int .i64 x] w λe w'=>e= .returned (.bool false)/\w'=w:=by
 go_enter func152,ntmps152
 go_wp2
 go_ret;exact⟨by simp,rfl⟩
theorem zTv(x y:Int)(w:World):Calls prog 149 #[.int .i64 x,.int .i64 y] w λe w'=>e= .returned (.int .i64 (zEw x y))/\w'=w:=by
 have H:=uT (λz=>yHk z w);by_cases h1:x<y
 ·have HF:=uT (show zEw x y= -1 by simp[zEw,h1]);go_enter func149,ntmps149;go_wp2_with fail;refine(H.s _).mono ?_;rintro _ _ ⟨rfl,rfl⟩;go_wp2_with fail;refine(H.s _).mono ?_;rintro _ _ ⟨rfl,rfl⟩;go_wp2_with fail;go_ret;exact⟨fG HF.s.symm,rfl⟩
 ·by_cases h2:y<x
  ·have HF:=uT (show zEw x y=1 by simp[zEw,h1,h2]);go_enter func149,ntmps149;go_wp2_with fail;refine(H.s _).mono ?_;rintro _ _ ⟨rfl,rfl⟩;go_wp2_with fail;refine(H.s _).mono ?_;rintro _ _ ⟨rfl,rfl⟩;go_wp2_with fail;go_ret;exact⟨fG HF.s.symm,rfl⟩
  ·have HF:=uT (show zEw x y=0 by simp[zEw,h1,h2]);go_enter func149,ntmps149;go_wp2_with fail;refine(H.s _).mono ?_;rintro _ _ ⟨rfl,rfl⟩;go_wp2_with fail;refine(H.s _).mono ?_;rintro _ _ ⟨rfl,rfl⟩;go_wp2_with fail;go_ret;exact⟨fG HF.s.symm,rfl⟩
theorem flag_any(b:Bool)(w:World):Calls prog 150 #[.bool b] w λe w'=>e= .returned (.int .i64 (zOg b))/\w'=w:=by
 cases b
 ·go_enter func150,ntmps150
  go_wp2
  go_ret;exact⟨rfl,rfl⟩
 ·go_enter func150,ntmps150
  go_wp2
  go_ret;exact⟨rfl,rfl⟩
theorem yFx(A:Option Addr)(n c:Nat)(zs:List Int)(B:Nat)(w:World)(hl:zs.length=n)(hm:n<=maxLen)(hr:Reads w B 1 A n (zs.map (.int .i64))):Calls prog 148 #[.slice A n c] w λe w'=>e= .returned (.int .i64 (orP zs))/\w'=w:=by
 obtain⟨HR,HL⟩:=uI hr hl;unfold maxLen at hm;clear hr hl;go_enter func148,ntmps148;go_wp2_with fail
 go_loop [8] (λi=>∃(k:Nat),k<=n/\i= .int .i64 k/\uS (orP (zs.drop k)=orP zs)) (λi=>n-(intOf i).toNat)
 case atStart=>exact⟨0,qL _,rfl,rfl⟩
 case round=>
  obtain⟨k,hk,rfl,HI⟩:=hrel;by_cases hlt:k<n
  ·obtain⟨b,o,z,rfl,_,hz,hc⟩:=dQ HR.s hlt;have HI2:=uT (by have h:=HI.s;rw[cZ zs k z hz,orP]at h;exact h);clear HI hz;by_cases hz0:z=0
   ·have HI3:=uT (by have h:=HI2.s;rw[if_neg (by simpa using hz0)]at h;exact h);clear HI2;subst hz0;go_wp2_with fail
    go_round
    case rel=>exact⟨k+1,by omega,by go_num,HI3.s⟩
    case measure=>simp[intOf];omega
   ·have HI3:=uT (by have h:=HI2.s;rw[if_pos hz0]at h;exact h);clear HI2;go_wp2_with fail;go_ret;exact⟨fG HI3.s,rfl⟩
  ·obtain rfl:k=n:=by omega
   have HF:=uT (show orP zs=0 by have h:=HI.s;rw[qW (by rw[HL.s];exact qA _)]at h;exact h.symm)
   clear HI;go_wp2_with fail;go_ret;exact⟨fG HF.s.symm,rfl⟩
theorem zZi(a b:Ent)(w:World):Calls prog 138 #[zCe a,zCe b] w λe w'=>e= .returned (.bool (zDe a b))/\uR w w':=by
 obtain⟨k,v,t,o,g⟩:=a;obtain⟨k',v',t',o',g'⟩:=b;obtain⟨HC,HF,HO⟩:=uJ zTv flag_any yFx;unfold zCe;go_enter func138,ntmps138;go_wp2_with fail;have hb:=((qC w.heap.size w).alloc (qA _) (.cells #[.int .i64 k,.int .i64 v,.int .i64 t,.int .i64 o,.bool g] 125)).alloc (by simp) (.cells #[.int .i64 k',.int .i64 v',.int .i64 t',.int .i64 o',.bool g'] 125);have ha:=(Blk.new w 125 #[.int .i64 k,.int .i64 v,.int .i64 t,.int .i64 o,.bool g]).alloc (.cells #[.int .i64 k',.int .i64 v',.int .i64 t',.int .i64 o',.bool g'] 125);have hc:=Blk.new (w.alloc (.cells #[.int .i64 k,.int .i64 v,.int .i64 t,.int .i64 o,.bool g] 125)) 125 #[.int .i64 k',.int .i64 v',.int .i64 t',.int .i64 o',.bool g'];refine wp_region_still_tail 22 (by kernel_rfl) (by kernel_rfl) ?_;simp only[qX,jE,qZ,jL];change wpStill _ _ (((w.alloc (.cells #[.int .i64 k,.int .i64 v,.int .i64 t,.int .i64 o,.bool g] 125)).alloc (.cells #[.int .i64 k',.int .i64 v',.int .i64 t',.int .i64 o',.bool g'] 125)).drew) (λa'=>wpList _ _ _ _ a' (((w.alloc (.cells #[.int .i64 k,.int .i64 v,.int .i64 t,.int .i64 o,.bool g] 125)).alloc (.cells #[.int .i64 k',.int .i64 v',.int .i64 t',.int .i64 o',.bool g'] 125)).drew)) _ _;replace hb:=hb.drew;replace ha:=ha.drew;replace hc:=hc.drew;generalize((w.alloc (.cells #[.int .i64 k,.int .i64 v,.int .i64 t,.int .i64 o,.bool g] 125)).alloc (.cells #[.int .i64 k',.int .i64 v',.int .i64 t',.int .i64 o',.bool g'] 125)).drew=w3 at*;have hs:(w.alloc (.cells #[.int .i64 k,.int .i64 v,.int .i64 t,.int .i64 o,.bool g] 125)).heap.size=w.heap.size+1:=by simp
 rw[hs]at hc;have a1:w3.cell? ⟨w.heap.size,1,none⟩=some (.int .i64 v):=ha.cell 1;have a2:w3.cell? ⟨w.heap.size,2,none⟩=some (.int .i64 t):=ha.cell 2;have a3:w3.cell? ⟨w.heap.size,3,none⟩=some (.int .i64 o):=ha.cell 3;have a4:w3.cell? ⟨w.heap.size,4,none⟩=some (.bool g):=ha.cell 4;have b1:w3.cell? ⟨w.heap.size+1,1,none⟩=some (.int .i64 v'):=hc.cell 1;have b2:w3.cell? ⟨w.heap.size+1,2,none⟩=some (.int .i64 t'):=hc.cell 2;have b3:w3.cell? ⟨w.heap.size+1,3,none⟩=some (.int .i64 o'):=hc.cell 3;have b4:w3.cell? ⟨w.heap.size+1,4,none⟩=some (.bool g'):=hc.cell 4;have HB:=uT hb;clear ha hc hs hb
 repeat(first|still_step|still_call (HC.s _ _ _)|still_call (HF.s _ _))
 refine wpStill_nil ?_;go_wp2_with fail;have hrr:=gQ (cs:=(zQr ⟨k,v,t,o,g⟩ ⟨k',v',t',o',g'⟩).map (.int .i64)) (Blk.new w3 3 _) (Nat.lt_succ_self _);refine(HO.s _ 4 4 (zQr ⟨k,v,t,o,g⟩ ⟨k',v',t',o',g'⟩) _ _ rfl (by unfold maxLen;omega) hrr).mono ?_;rintro _ _ ⟨rfl,rfl⟩;go_wp2_with fail;go_ret;exact⟨rfl,HB.s.alloc HB.s.size _⟩
theorem zUd(a b:Ent):zDe a b=if a.time≠b.time then decide (b.time<a.time)else if a.who≠b.who then decide (b.who<a.who)else if a.gone≠b.gone then b.gone else decide (b.value<a.value):=by
 obtain⟨k,v,t,o,g⟩:=a;obtain⟨k',v',t',o',g'⟩:=b;have hc:∀x y:Int,(zEw x y≠0↔x≠y)/\(0<zEw x y↔y<x):=by
  intro x y;unfold zEw
  constructor
  ·split
   ·simp;omega
   ·split<;>simp<;>omega
  ·split
   ·simp;omega
   ·split<;>simp<;>omega
 unfold zDe zQr orP;dsimp only;by_cases ht:t≠t'
 ·rw[if_pos ht,if_pos ((hc t t').1.2 ht)];exact decide_eq_decide.2 (hc t t').2
 ·rw[if_neg ht,if_neg λh=>ht ((hc t t').1.1 h)];unfold orP;by_cases ho:o≠o'
  ·rw[if_pos ho,if_pos ((hc o o').1.2 ho)];exact decide_eq_decide.2 (hc o o').2
  ·rw[if_neg ho,if_neg λh=>ho ((hc o o').1.1 h)];unfold orP;by_cases hg:g≠g'
   ·rw[if_pos hg];cases g<;>cases g'<;>simp[zOg,zEw]at hg⊢
   ·rw[if_neg hg];have:g=g':=by simpa using hg
    subst this;have e:zEw (zOg g) (zOg g)=0:=by cases g<;>rfl
    rw[e,if_neg (by simp)];unfold orP;by_cases hv:v≠v'
    ·rw[if_pos ((hc v v').1.2 hv)];exact decide_eq_decide.2 (hc v v').2
    ·have:v=v':=by omega
     subst this;rw[if_neg λh=>hv ((hc v v).1.1 h)];simp[orP]
theorem zTx(a b:Ent)(w:World):Calls prog 100 #[zCe a,zCe b] w λe w'=>e= .returned (.bool (zDe a b))/\uR w w':=by
 have HE:=uT (zUd a b);obtain⟨k,v,t,o,g⟩:=a;obtain⟨k',v',t',o',g'⟩:=b;have HB:=uT (((qC w.heap.size w).alloc (qA _) (.cells #[.int .i64 k,.int .i64 v,.int .i64 t,.int .i64 o,.bool g] 125)).alloc (by simp) (.cells #[.int .i64 k',.int .i64 v',.int .i64 t',.int .i64 o',.bool g'] 125));unfold zCe;by_cases ht:t=t'
 ·subst ht;by_cases ho:o=o'
  ·subst ho;cases g with
   |true=>cases g' with
    |true=>go_enter func100,ntmps100;go_wp2_with fail;go_ret;exact⟨bQ (by rw[HE.s];simp),HB.s⟩
    |false=>go_enter func100,ntmps100;go_wp2_with fail;go_ret;exact⟨bQ (by rw[HE.s];simp),HB.s⟩
   |false=>cases g' with
    |true=>go_enter func100,ntmps100;go_wp2_with fail;go_ret;exact⟨bQ (by rw[HE.s];simp),HB.s⟩
    |false=>go_enter func100,ntmps100;go_wp2_with fail;go_ret;exact⟨bQ (by rw[HE.s];simp),HB.s⟩
  ·go_enter func100,ntmps100;go_wp2_with fail;go_ret;exact⟨bQ (by rw[HE.s];simp[ho]),HB.s⟩
 ·go_enter func100,ntmps100;go_wp2_with fail;go_ret;exact⟨bQ (by rw[HE.s];simp[ht]),HB.s⟩
def above(p:Option Int)(k:Int):Bool:=match p with
 |none=>true
 |some q=>decide (q<k)
def dO:List Ent->Option Int->Bool
 |[],_=>true
 |e::l,p=>gJ e&&above p e.key&&dO l (some e.key)
def bU(l:List Ent):Bool:=dO l none&&decide (l.length<=8)
def zCb(l:List Ent)(k:Nat):Option Int:=if k=0 then none else(l[k-1]?).map (·.key)
theorem zAw(l:List Ent)(k:Nat)(e:Ent)(h:l[k]? =some e):zCb l (k+1)=some e.key:=by simp[zCb,h]
theorem zIh(A:Option Addr)(n c:Nat)(l:List Ent)(B:Nat)(w:World)(hl:l.length=n)(hm:n<=maxLen)(hr:Reads w B 5 A n (l.flatMap bD))(hB:B<=w.heap.size):Calls prog 107 #[.slice A n c] w λe w'=>e= .returned (.bool (bU l))/\uR w w':=by
 obtain⟨HR,HL⟩:=uI (hr.more hB) hl;unfold maxLen at hm;clear hr hl;go_enter func107,ntmps107;go_wp2_with fail
 go_loopw [7] (λi wr=>∃(k:Nat),k<=n/\i= .int .i64 k/\uR w wr/\uS (dO (l.drop k) (zCb l k)=dO l none)) (λi _=>n-(intOf i).toNat)
 case atStart=>exact⟨0,qL _,rfl,qC _ _,rfl⟩
 case round=>
  obtain⟨k,hk,rfl,hb,HI⟩:=hrel;by_cases hlt:k<n
  ·obtain⟨b,o,e,rfl,hbl,he,hc⟩:=fB cN (by omega) (HR.s.below hb) hlt HL.s;have c0:wr.cell? ⟨b,o+k*5,none⟩=some (.int .i64 e.key):=hc 0 _ rfl;have c1:wr.cell? ⟨b,o+k*5+1,none⟩=some (.int .i64 e.value):=hc 1 _ rfl;have c2:wr.cell? ⟨b,o+k*5+2,none⟩=some (.int .i64 e.time):=hc 2 _ rfl;have c3:wr.cell? ⟨b,o+k*5+3,none⟩=some (.int .i64 e.who):=hc 3 _ rfl;have c4:wr.cell? ⟨b,o+k*5+4,none⟩=some (.bool e.gone):=hc 4 _ rfl;obtain⟨HI2,HE⟩:=uI (by have h:=HI.s;rw[cZ l k e he,dO]at h;exact h) he;have hsz:=hb.size;have hbl':b<wr.heap.size:=by omega
   clear HI hc he;have HO:=uT (show∀W,Calls prog 128 #[.agg #[.int .i64 e.key,.int .i64 e.value,.int .i64 e.time,.int .i64 e.who,.bool e.gone]] W λx w'=>x= .returned (.bool (gJ e))/\W.alloc (.cells #[.int .i64 e.key,.int .i64 e.value,.int .i64 e.time,.int .i64 e.who,.bool e.gone] 125)=w' from λW=>yCz e W);obtain⟨wx,hwx⟩:=kB (wr.alloc (.cells #[.int .i64 e.key,.int .i64 e.value,.int .i64 e.time,.int .i64 e.who,.bool e.gone] 125));have hbx:uR w wx:=by rw[hwx];exact hb.alloc hsz _
   have HX:=uT hbx;have hnew:=Blk.new wr 125 #[.int .i64 e.key,.int .i64 e.value,.int .i64 e.time,.int .i64 e.who,.bool e.gone];rw[<-hwx]at hnew;have f0:∀n:Ext wx,n.W.cell? ⟨wr.heap.size,0,none⟩=some (.int .i64 e.key):=λn=>n.cell (hnew.cell 0)
   have f1:∀n:Ext wx,n.W.cell? ⟨wr.heap.size,1,none⟩=some (.int .i64 e.value):=λn=>n.cell (hnew.cell 1)
   have f2:∀n:Ext wx,n.W.cell? ⟨wr.heap.size,2,none⟩=some (.int .i64 e.time):=λn=>n.cell (hnew.cell 2)
   have f3:∀n:Ext wx,n.W.cell? ⟨wr.heap.size,3,none⟩=some (.int .i64 e.who):=λn=>n.cell (hnew.cell 3)
   have f4:∀n:Ext wx,n.W.cell? ⟨wr.heap.size,4,none⟩=some (.bool e.gone):=λn=>n.cell (hnew.cell 4)
   have HWX:=uT hwx;clear hnew hbx hwx;have hnb:∀n:Ext wx,uR w n.W:=λn=>HX.s.trans (n.h.mono HX.s.size)
   have HNB:=uT hnb;clear hnb;cases h1:gJ e with
   |false=>
    have HG:=uT (show bU l=false by unfold bU;rw[<-HI2.s,h1];rfl);have HO2:=uT (show∀W,Calls prog 128 #[.agg #[.int .i64 e.key,.int .i64 e.value,.int .i64 e.time,.int .i64 e.who,.bool e.gone]] W λx w'=>x= .returned (.bool false)/\uR W w' from
     λW=>(HO.s W).mono λx w' ⟨hx,hw'⟩=>⟨by rw[hx,h1],by rw[<-hw'];exact(qC _ _).alloc (qA _) _⟩)
    go_wp2_with fail;rw[<-HWX.s];refine dR (by kernel_rfl) (by kernel_rfl) ?_
    repeat(go_big_quiet_step ((go_at_call 128;exact fT (HO2.s _))))
    refine qF ?_;rintro _ ⟨nq,rfl⟩;go_wp2_with fail;go_ret;exact⟨bQ HG.s.symm,HNB.s nq⟩
   |true=>
    have HO2:=uT (show∀W,Calls prog 128 #[.agg #[.int .i64 e.key,.int .i64 e.value,.int .i64 e.time,.int .i64 e.who,.bool e.gone]] W λx w'=>x= .returned (.bool true)/\uR W w' from
     λW=>(HO.s W).mono λx w' ⟨hx,hw'⟩=>⟨by rw[hx,h1],by rw[<-hw'];exact(qC _ _).alloc (qA _) _⟩)
    rw[h1]at HI2;by_cases hk0:0<k
    ·obtain⟨j,rfl⟩:∃j,k=j+1:=⟨k-1,by omega⟩;obtain⟨b',o',d,hA,_,hd,hcd⟩:=fB cN (by omega) (HR.s.below HX.s) (show j<n by omega) HL.s;have d0:∀n:Ext wx,n.W.cell? ⟨b,o+j*5,none⟩=some (.int .i64 d.key):=by injection hA with hA;injection hA with hA1 hA2;subst hA1 hA2;exact λn=>n.cell (hcd 0 _ rfl)
     have HD:=uT (zAw l j d hd);clear hcd hA hd hk0;have hj0:(0:Int)<((j+1:Nat):Int):=by omega
     have hj1:(j:Int)<(n:Int):=by omega
     have hj2:(j:Int)<=9223372036854775806:=by omega
     by_cases hlt2:d.key<e.key
     ·have HI3:=uT (show dO (l.drop (j+1+1)) (zCb l (j+1+1))=dO l none by have h:=HI2.s;rw[HD.s]at h;rw[zAw l (j+1) e HE.s,<-h];simp[above,hlt2])
      clear HI2;go_wp2_with fail;rw[<-HWX.s];refine dR (by kernel_rfl) (by kernel_rfl) ?_
      repeat(go_big_quiet_step ((go_at_call 128;exact fT (HO2.s _))))
      refine qF ?_;rintro _ ⟨nq,rfl⟩;go_wp2_with fail;go_roundw
      case rel=>exact⟨j+1+1,by omega,by go_num,HNB.s nq,HI3.s⟩
      case measure=>simp[intOf];omega
     ·have HG:=uT (show bU l=false by have h:=HI2.s;rw[HD.s]at h;unfold bU;rw[<-h];simp[above,hlt2])
      have hge:e.key<=d.key:=by omega
      clear HI2 hlt2;go_wp2_with fail;rw[<-HWX.s];refine dR (by kernel_rfl) (by kernel_rfl) ?_
      repeat(go_big_quiet_step ((go_at_call 128;exact fT (HO2.s _))))
      refine qF ?_;rintro _ ⟨nq,rfl⟩;go_wp2_with fail;go_ret;exact⟨bQ HG.s.symm,HNB.s nq⟩
    ·obtain rfl:k=0:=by omega
     have HI3:=uT (show dO (l.drop (0+1)) (zCb l (0+1))=dO l none by have h:=HI2.s;rw[zAw l 0 e HE.s,<-h];simp[zCb,above])
     clear HI2 hk0;have e0:o+0*5=o:=by omega
     rw[e0]at c0 c1 c2 c3 c4;go_wp2_with fail;rw[<-HWX.s];refine dR (by kernel_rfl) (by kernel_rfl) ?_
     repeat(go_big_quiet_step ((go_at_call 128;exact fT (HO2.s _))))
     refine qF ?_;rintro _ ⟨nq,rfl⟩;go_wp2_with fail;go_roundw
     case rel=>exact⟨0+1,by omega,by go_num,HNB.s nq,HI3.s⟩
     case measure=>simp[intOf];omega
  ·obtain rfl:k=n:=by omega
   have HG:=uT (show bU l=decide (k<=8)by have h:=HI.s;rw[qW (by rw[HL.s];exact qA _),dO]at h;unfold bU;rw[<-h,HL.s,Bool.true_and])
   have HB:=uT hb;clear HI hb;go_wp2_with fail;go_ret;exact⟨bQ (by rw[HG.s];exact decide_eq_decide.2 (by omega)),HB.s⟩
theorem info_ent:(prog.info? 125).map (λi=>(i.zero,i.size,i.bytes))=some (some (.agg #[.int .i64 0,.int .i64 0,.int .i64 0,.int .i64 0,.bool false]),5,40):=by kernel_rfl
theorem zHb:∃i,prog.info? 125=some i/\i.zero=some (.agg #[.int .i64 0,.int .i64 0,.int .i64 0,.int .i64 0,.bool false])/\i.size=5/\i.bytes=40:=by
 have h:=info_ent;cases hi:prog.info? 125 with
 |none=>rw[hi]at h;simp at h
 |some i=>rw[hi]at h;simp at h;exact⟨i,rfl,h.1,h.2.1,h.2.2⟩
theorem zDi(l:List Ent):∀u∈l.flatMap bD,u.oneCell'=true:=by intro u hu;obtain⟨e,_,he⟩:=List.mem_flatMap.1 hu;simp only[bD,jD,List.not_mem_nil,or_false]at he;rcases he with rfl|rfl|rfl|rfl|rfl<;>rfl
theorem zZw(A:Option Addr)(n c:Nat)(l:List Ent)(B:Nat)(w:World)(hl:l.length=n)(hm:n*40<=140737488351232)(hr:Reads w B 5 A n (l.flatMap bD))(hB:B<=w.heap.size):Calls prog 134 #[.slice A n c] w λe w'=>∃v,e= .returned v/\w'.ownsRow w.heap.size 125 5 v n (l.flatMap bD)/\uR w w':=by
 obtain⟨i0,hi,hz0,hz1,hz2⟩:=zHb;have q22:∀(w:World) (a:Option Addr) (n c n' c':Nat),(binOp .eql 103 (.slice a n c) (.slice none n' c')).run prog w= .ok (.bool a.isNone) w:=λw a n c n' c'=>Lib.run_eql_slice_nil w _ _ a n c n' c' underlying103
 obtain⟨HR,HL⟩:=uI (hr.more hB) hl;clear hr hl;cases A with
 |none=>
  obtain rfl:n=0:=by
   rcases Nat.eq_zero_or_pos n with h|h
   ·exact h
   ·obtain⟨a,ha,_⟩:=HR.s.2 h;cases ha
  obtain rfl:l=[]:=uC HL.s;go_enter func134,ntmps134;go_wp2_with fail;go_ret;exact⟨_,rfl,qH _ _ _ _,qC _ _⟩
 |some a=>
  have hlit:=World.ownsRow_lit (base:=w.heap.size) (size:=5) (e:=125) w #[] 0 (qA _) (by unfold maxLen;omega) rfl;obtain⟨HLIT,HR1⟩:=uI hlit (HR.s.alloc (qA _) (.cells #[] 125));have h1:0+n<=maxLen:=by unfold maxLen;omega
  have h2:(0+n)*40<=140737488355328:=by omega
  have hone:=zDi l;have HONE:=uT hone;clear hlit hone hB hm;go_enter func134,ntmps134;go_wp2_with(first
   |(at_builtin;(refine fL _ rfl (.tmp 5) (.tmp 6) _ rfl w.heap.size 125 i0 _ 5 40 underlying103 hi hz0 hz1 hz2 rfl (by omega) _ 0 _ rfl HLIT.s w.heap.size (some a) n c (l.flatMap bD) rfl HR1.s HONE.s h1 h2 (by simp) ?_);intro v w1 hown hg hv))
  go_ret;exact⟨v,rfl,by simpa using hown,((qC _ w).alloc (qA _) _).grown hg (by simp) λk hk=>(HLIT.s.lt k hk).1⟩
def zBa(L:List Ent):Prop:=L.Pairwise λx y=>x.key<y.key
def zJa(L:List Ent):Prop:=∀x∈L,0<=x.key/\x.key<=1048576
def zCd:List Ent->Int->Nat
 |[],_=>0
 |x::L,k=>if x.key<k then zCd L k+1 else 0
theorem yCi(L:List Ent)(k:Int):zCd L k<=L.length:=by
 induction L with
 |nil=>simp[zCd]
 |cons x L ih=>unfold zCd;split<;>simp<;>omega
theorem posE_lt(L:List Ent)(k:Int)(h:zBa L):∀(p:Nat) (x:Ent),L[p]? =some x->(x.key<k↔p<zCd L k):=by
 induction L with
 |nil=>intro p x hx;simp at hx
 |cons y L ih=>
  intro p x hx;have hs:=List.pairwise_cons.1 h;unfold zCd;cases p with
  |zero=>
   simp at hx;subst hx
   split<;>simp[*]
  |succ p=>
   simp at hx;have h1:=ih hs.2 p x hx;have h2:=hs.1 x (qB hx)
   split
   ·omega
   ·constructor
    ·intro h3;omega
    ·intro h3;omega
theorem zMy(e:Ent)(k:Int)(w:World)(h1:0<=e.key/\e.key<=1048576)(h2:0<=k/\k<=1048576):Calls prog 136 #[.agg #[.int .i64 e.key,.int .i64 e.value,.int .i64 e.time,.int .i64 e.who,.bool e.gone],.int .i64 k] w λx w'=>x= .returned (.int .i64 (e.key-k))/\uR w w':=by go_enter func136,ntmps136;go_wp2_with fail;go_ret;exact⟨rfl,(qC _ _).alloc (qA _) _⟩
theorem zSc(args:Array Value)(W:World):(callFunc 136 args).run prog W= .ok (.enter 136 args) W:=
 zAi func136 (by kernel_rfl) rfl args W
def zJb(L:List Ent)(k:Int):Bool:=match L[zCd L k]? with|some x=>decide (x.key=k)|none=>false
theorem zWr(A:Option Addr)(n c:Nat)(l:List Ent)(k:Int)(B:Nat)(w:World)(hl:l.length=n)(hm:n*40<=140737488351232)(hr:Reads w B 5 A n (l.flatMap bD))(hB:B<=w.heap.size)(hs:zBa l)(hk:zJa l)(h2:0<=k/\k<=1048576):Calls prog 135 #[.slice A n c,.int .i64 k,.func (.func 136) #[] #[]] w λe w'=>e= .returned (.tuple #[.int .i64 (zCd l k),.bool (zJb l k)])/\uR w w':=by
 obtain⟨HR,HL,HS,HK⟩:=uK (hr.more hB) hl hs hk;have hrun:=zSc;have HPL:=uT (show zCd l k<=n by rw[<-hl];exact yCi l k);clear hr hl hs hk;go_enter func135,ntmps135;go_wp2_with fail
 go_loopw [9,10] (λx y wr=>∃i j:Nat,i<=zCd l k/\zCd l k<=j/\j<=n/\x= .int .i64 i/\y= .int .i64 j/\uR w wr) (λx y _=>(intOf y-intOf x).toNat)
 case atStart=>exact⟨0,n,qL _,HPL.s,qA _,rfl,rfl,qC _ _⟩
 case round=>
  obtain⟨i,j,hi,hj,hjn,rfl,rfl,hb⟩:=hrel;by_cases hlt:i<j
  ·obtain⟨h,hh⟩:=kB ((i+j)/2);have hhn:h<n:=by omega
   have hmid:IntKind.u64.wrap ((i:Int)+(j:Int))=(i:Int)+(j:Int):=by simp[IntKind.wrap,IntKind.bits,IntKind.signed];omega
   have E2:=uT (show((h:Nat):Int)=((i:Int)+(j:Int))/2 by omega);obtain⟨b,o,e,rfl,hbl,he,hc⟩:=fB cN (by omega) (HR.s.below hb) hhn HL.s;have c0:wr.cell? ⟨b,o+h*5,none⟩=some (.int .i64 e.key):=hc 0 _ rfl;have c1:wr.cell? ⟨b,o+h*5+1,none⟩=some (.int .i64 e.value):=hc 1 _ rfl;have c2:wr.cell? ⟨b,o+h*5+2,none⟩=some (.int .i64 e.time):=hc 2 _ rfl;have c3:wr.cell? ⟨b,o+h*5+3,none⟩=some (.int .i64 e.who):=hc 3 _ rfl;have c4:wr.cell? ⟨b,o+h*5+4,none⟩=some (.bool e.gone):=hc 4 _ rfl;have hek:=HK.s e (qB he);have hpos:=posE_lt l k HS.s h e he;have HCL:=uT (λW=>zMy e k W hek h2);have hhn':(h:Int)<(n:Int):=by omega
   obtain⟨HB,HH⟩:=uI hb hh;clear hc he hbl hb hh;go_upto_region 5 with fail;rw[<-E2.s];by_cases hc:e.key<k
   ·have hp:=hpos.1 hc;have hc':e.key-k<0:=by omega
    clear hpos;go_wp2_with fail;refine(HCL.s _).mono ?_;rintro _ w2 ⟨rfl,hb2⟩;have HB2:=uT (HB.s.trans (hb2.mono HB.s.size));clear hb2;go_wp2_with fail;go_roundw
    case rel=>exact⟨h+1,j,by omega,hj,hjn,by go_num,rfl,HB2.s⟩
    case measure=>have:=HH.s;simp[intOf];omega
   ·have hp:¬ h<zCd l k:=λe=>hc (hpos.2 e)
    have hc':¬ e.key-k<0:=by omega
    clear hpos;go_wp2_with fail;refine(HCL.s _).mono ?_;rintro _ w2 ⟨rfl,hb2⟩;have HB2:=uT (HB.s.trans (hb2.mono HB.s.size));clear hb2;go_wp2_with fail;go_roundw
    case rel=>exact⟨i,h,hi,by omega,by omega,rfl,rfl,HB2.s⟩
    case measure=>have:=HH.s;simp[intOf];omega
  ·obtain rfl:i=j:=by omega
   obtain hq:zCd l k=i:=by omega
   have HQ:=uT hq;rw[hq];clear hi hj hq;by_cases hin:i<n
   ·obtain⟨b,o,e,rfl,hbl,he,hc⟩:=fB cN (by omega) (HR.s.below hb) hin HL.s;have c0:wr.cell? ⟨b,o+i*5,none⟩=some (.int .i64 e.key):=hc 0 _ rfl;have c1:wr.cell? ⟨b,o+i*5+1,none⟩=some (.int .i64 e.value):=hc 1 _ rfl;have c2:wr.cell? ⟨b,o+i*5+2,none⟩=some (.int .i64 e.time):=hc 2 _ rfl;have c3:wr.cell? ⟨b,o+i*5+3,none⟩=some (.int .i64 e.who):=hc 3 _ rfl;have c4:wr.cell? ⟨b,o+i*5+4,none⟩=some (.bool e.gone):=hc 4 _ rfl;have hek:=HK.s e (qB he);obtain⟨HCL,HF⟩:=uI (λW=>zMy e k W hek h2) (show zJb l k=(e.key-k==0)by unfold zJb;rw[HQ.s,he];dsimp only;rw[Bool.eq_iff_iff];simp;omega);have hin':(i:Int)<(n:Int):=by omega
    have HB:=uT hb;clear hc he hbl hb;go_wp2_with fail;refine(HCL.s _).mono ?_;rintro _ w2 ⟨rfl,hb2⟩;have HB2:=uT (HB.s.trans (hb2.mono HB.s.size));clear hb2;go_wp2_with fail;go_ret2;rw[HF.s,HQ.s];exact⟨rfl,HB2.s⟩
   ·have HF:=uT (show zJb l k=false by unfold zJb;rw[HQ.s,qU (by rw[HL.s];omega)]);have hin':decide (i<n)=false:=decide_eq_false hin;have HB:=uT hb;clear hb;go_wp2_with fail;go_ret2;rw[HF.s,HQ.s];exact⟨rfl,HB.s⟩
def gI:List Ent->Ent->List Ent
 |[],e=>[e]
 |x::L,e=>if x.key<e.key then x::gI L e else if e.key<x.key then e::x::L else(if zDe e x then e else x)::L
theorem insE_len(L:List Ent)(e:Ent):(gI L e).length<=L.length+1:=by
 induction L with
 |nil=>simp[gI]
 |cons x L ih=>unfold gI;split; · simp;omega
               split<;>simp
theorem zQd(L:List Ent)(e:Ent):∀z∈gI L e,z∈L\/z=e:=by
 induction L with
 |nil=>intro z hz;simp[gI]at hz;exact .inr hz
 |cons x L ih=>
  intro z hz;unfold gI at hz
  split at hz
  ·rcases jD.1 hz with rfl|hz
   ·exact .inl (by simp)
   ·rcases ih z hz with h|h
    ·exact .inl (by simp[h])
    ·exact .inr h
  ·split at hz
   ·rcases jD.1 hz with rfl|hz
    ·exact .inr rfl
    ·exact .inl hz
   ·rcases jD.1 hz with h|hz
    ·split at h
     ·exact .inr h
     ·exact .inl (by simp[h])
    ·exact .inl (by simp[hz])
theorem yBo(L:List Ent)(e:Ent)(h:zBa L):zBa (gI L e):=by
 induction L with
 |nil=>exact List.pairwise_singleton _ _
 |cons x L ih=>
  have hs:=List.pairwise_cons.1 h;unfold gI
  split
  ·rename_i hlt;refine List.pairwise_cons.2 ⟨λz hz=> ?_,ih hs.2⟩;rcases zQd L e z hz with h1|h1
   ·exact hs.1 z h1
   ·rw[h1];exact hlt
  ·split
   ·rename_i h1 h2;refine List.pairwise_cons.2 ⟨λz hz=> ?_,h⟩;rcases jD.1 hz with rfl|hz
    ·exact h2
    ·have:=hs.1 z hz;omega
   ·rename_i h1 h2;refine List.pairwise_cons.2 ⟨λz hz=> ?_,hs.2⟩;have:=hs.1 z hz
    split<;>omega
theorem yGu(L:List Ent)(e:Ent)(h:zJa L)(he:0<=e.key/\e.key<=1048576):zJa (gI L e):=λz hz=>by
 rcases zQd L e z hz with h1|h1
 ·exact h z h1
 ·rw[h1];exact he
theorem insE_had(L:List Ent)(e:Ent)(h:zBa L):zJb L e.key=true->∃x,L[zCd L e.key]? =some x/\x.key=e.key/\gI L e=if zDe e x then L.set (zCd L e.key) e else L:=by
 induction L with
 |nil=>intro h;simp[zJb,zCd]at h
 |cons x L ih=>
  have hs:=List.pairwise_cons.1 h;intro hh;unfold zJb zCd at hh;unfold zCd gI;by_cases h1:x.key<e.key
  ·rw[if_pos h1]at hh⊢;rw[if_pos h1];rw[jP]at hh;obtain⟨y,hy,hk,he⟩:=ih hs.2 hh;refine⟨y,by rw[jP];exact hy,hk,?_⟩;rw[he]
   split<;>simp
  ·rw[if_neg h1]at hh⊢;rw[if_neg h1];simp at hh;rw[if_neg (by omega)];refine⟨x,by simp,hh,?_⟩
   split<;>simp
theorem insE_new(L:List Ent)(e:Ent)(h:zBa L):zJb L e.key=false->gI L e=L.take (zCd L e.key)++e::L.drop (zCd L e.key):=by
 induction L with
 |nil=>intro _;simp[gI]
 |cons x L ih=>
  have hs:=List.pairwise_cons.1 h;intro hh;unfold zJb zCd at hh;unfold zCd gI;by_cases h1:x.key<e.key
  ·rw[if_pos h1]at hh⊢;rw[if_pos h1];rw[jP]at hh;rw[ih hs.2 hh];simp
  ·rw[if_neg h1]at hh⊢;rw[if_neg h1];simp at hh;rw[if_pos (by omega)];simp
theorem zFz{e:Ent}(h:gJ e=true):(0<=e.key/\e.key<=1048576)/\(0<=e.value/\e.value<=1048576)/\(0<=e.time/\e.time<=1048576)/\(0<=e.who/\e.who<=7):=by unfold gJ inP at h;simp at h;omega
theorem zMs:∀(l:List Ent) (p:Option Int),dO l p=true->(∀x∈l,gJ x=true)/\(∀q,p=some q->∀x∈l,q<x.key)/\zBa l
 |[],p,_=>⟨by simp,by simp,List.Pairwise.nil⟩
 |e::l,p,h=>by
  unfold dO at h;simp only[qT]at h;obtain⟨h1,h2,h3⟩:=zMs l (some e.key) h.2;refine⟨λx hx=> ?_,λq hq x hx=> ?_,List.pairwise_cons.2 ⟨λx hx=>h2 _ rfl x hx,h3⟩⟩
  ·rcases jD.1 hx with rfl|hx
   ·exact h.1.1
   ·exact h1 x hx
  ·subst hq;have h4:=h.1.2;simp[above]at h4;rcases jD.1 hx with rfl|hx
   ·exact h4
   ·have:=h2 _ rfl x hx;omega
theorem gX{l:List Ent}(h:bU l=true):zBa l/\zJa l/\l.length<=8/\∀x∈l,gJ x=true:=by unfold bU at h;simp only[qT,decide_eq_true_eq]at h;obtain⟨h1,_,h3⟩:=zMs l none h.1;exact⟨h3,λx hx=>(zFz (h1 x hx)).1,h.2,h1⟩
def dY(a b:List Ent):List Ent×Int:=if bU a&&bU b then(if 8<(b.foldl gI a).length then([],8)else(b.foldl gI a,0))else([],4)
theorem zRa(b:List Ent)(hb:zJa b):∀a,zBa a->zJa a->zBa (b.foldl gI a)/\zJa (b.foldl gI a)/\(b.foldl gI a).length<=a.length+b.length:=by
 induction b with
 |nil=>intro a h1 h2;exact⟨h1,h2,by simp⟩
 |cons y b ih=>intro a h1 h2;obtain⟨h3,h4,h5⟩:=ih (λx hx=>hb x (by simp[hx])) (gI a y) (yBo a y h1) (yGu a y h2 (hb y (by simp)));have:=insE_len a y;exact⟨h3,h4,by rw[List.foldl_cons];simp;omega⟩
def zFi(e:Ent):List Int:=[e.key,e.value,e.time,e.who]
theorem zYg(e:Ent)(k:Nat)(z:Int)(h:(zFi e)[k]? =some z)(hz:z<0\/1048576<z):gJ e=false:=by
 match k with
 |0=>simp[zFi]at h;subst h;simp[gJ,inP];omega
 |1=>simp[zFi]at h;subst h;simp[gJ,inP];omega
 |2=>simp[zFi]at h;subst h;simp[gJ,inP];omega
 |3=>simp[zFi]at h;subst h;simp[gJ,inP];omega
 |k+4=>simp[zFi]at h
theorem yGm(e:Ent)(h:∀(k:Nat) (z:Int),(zFi e)[k]? =some z->0<=z/\z<=1048576):(0<=e.key/\e.key<=1048576)/\(0<=e.value/\e.value<=1048576)/\(0<=e.time/\e.time<=1048576)/\0<=e.who/\e.who<=1048576:=
 ⟨h 0 _ rfl,h 1 _ rfl,h 2 _ rfl,h 3 _ rfl⟩
theorem zTo(A:Option Addr)(n c:Nat)(l:List Ent)(B:Nat)(w:World)(hl:l.length=n)(hm:n<=maxLen)(hr:Reads w B 5 A n (l.flatMap bD))(hB:B<=w.heap.size):Calls prog 94 #[.slice A n c] w λe w'=>e= .returned (.bool (bU l))/\uR w w':=by
 obtain⟨HR,HL⟩:=uI (hr.more hB) hl;unfold maxLen at hm;clear hr hl;by_cases h8:8<n
 ·have HG:=uT (show bU l=false by unfold bU;rw[HL.s];simp;omega);go_enter func94,ntmps94;go_wp2_with fail;go_ret;exact⟨bQ HG.s.symm,qC _ _⟩
 have h8':n<=8:=by omega
 clear h8 hm;go_enter func94,ntmps94;go_wp2_with fail
 go_loopw [12] (λi wr=>∃(k:Nat),k<=n/\i= .int .i64 k/\uR w wr/\uS (dO (l.drop k) (zCb l k)=dO l none)) (λi _=>n-(intOf i).toNat)
 case atStart=>exact⟨0,qL _,rfl,qC _ _,rfl⟩
 case round=>
  obtain⟨k,hk,rfl,hb,HI⟩:=hrel;by_cases hlt:k<n
  ·obtain⟨b,o,e,rfl,hbl,he,hc⟩:=fB cN (by omega) (HR.s.below hb) hlt HL.s;have c0:wr.cell? ⟨b,o+k*5,none⟩=some (.int .i64 e.key):=hc 0 _ rfl;have c1:wr.cell? ⟨b,o+k*5+1,none⟩=some (.int .i64 e.value):=hc 1 _ rfl;have c2:wr.cell? ⟨b,o+k*5+2,none⟩=some (.int .i64 e.time):=hc 2 _ rfl;have c3:wr.cell? ⟨b,o+k*5+3,none⟩=some (.int .i64 e.who):=hc 3 _ rfl;have c4:wr.cell? ⟨b,o+k*5+4,none⟩=some (.bool e.gone):=hc 4 _ rfl;obtain⟨HI2,HE⟩:=uI (by have h:=HI.s;rw[cZ l k e he,dO]at h;exact h) he;have hsz:=hb.size;have hbl':b<wr.heap.size:=by omega
   clear HI hc he;go_wp2_with fail;obtain⟨wz,hwz⟩:=kB ((wr.alloc (.cells #[.int .i64 e.key,.int .i64 e.value,.int .i64 e.time,.int .i64 e.who,.bool e.gone] 125)).alloc (.cells #[.int .i64 e.key,.int .i64 e.value,.int .i64 e.time,.int .i64 e.who] 3));have hn1:=(Blk.new wr 125 #[.int .i64 e.key,.int .i64 e.value,.int .i64 e.time,.int .i64 e.who,.bool e.gone]).alloc (.cells #[.int .i64 e.key,.int .i64 e.value,.int .i64 e.time,.int .i64 e.who] 3);have hn2:=Blk.new (wr.alloc (.cells #[.int .i64 e.key,.int .i64 e.value,.int .i64 e.time,.int .i64 e.who,.bool e.gone] 125)) 3 #[.int .i64 e.key,.int .i64 e.value,.int .i64 e.time,.int .i64 e.who];rw[<-hwz]at hn1 hn2;have hs1:(wr.alloc (.cells #[.int .i64 e.key,.int .i64 e.value,.int .i64 e.time,.int .i64 e.who,.bool e.gone] 125)).heap.size=wr.heap.size+1:=by simp
   rw[hs1]at hn2;obtain⟨HR4,HBZ⟩:=uI (show Reads wz (wr.heap.size+2) 1 (some ⟨wr.heap.size+1,0,none⟩) 4 ((zFi e).map (.int .i64))from gQ (cs:=(zFi e).map (.int .i64)) hn2 (by omega)) (show uR w wz by rw[hwz];exact(hb.alloc hsz _).alloc (by simp;omega) _);have g0:=hn1.cell 0;have g1:=hn1.cell 1;have g2:=hn1.cell 2;have g3:=hn1.cell 3;have g4:=hn1.cell 4;simp at g0 g1 g2 g3 g4;have HWZ:=uT hwz;clear hn1 hn2 hs1 hwz c0 c1 c2 c3 c4;rw[<-HWZ.s];clear HWZ
   go_loop [27] (λi=>∃(m:Nat),m<=4/\i= .int .i64 m/\uS (∀(j:Nat) (z:Int),j<m->(zFi e)[j]? =some z->0<=z/\z<=1048576)) (λi=>4-(intOf i).toNat)
   case atStart=>exact⟨0,qL _,rfl,λj z hj=>by omega⟩
   case round=>
    obtain⟨m,hm4,rfl,HM⟩:=hrel;by_cases hlt4:m<4
    ·obtain⟨bz,oz,z,hAz,_,hz,hcz⟩:=dQ HR4.s hlt4;injection hAz with hAz;injection hAz with hAz1 hAz2;subst hAz1 hAz2;have HZ:=uT hz;have e0:0+m=m:=by omega
     rw[e0]at hcz;clear hz e0;by_cases hz0:z<0
     ·skip
      have HG:=uT (show bU l=false by have h:=HI2.s;rw[show gJ e=false by exact zYg e m z HZ.s (.inl hz0)]at h;unfold bU;rw[<-h];rfl)
      go_wp2_with fail;go_ret;exact⟨bQ HG.s.symm,HBZ.s⟩
     by_cases hz1:1048576<z
     ·skip
      have HG:=uT (show bU l=false by have h:=HI2.s;rw[show gJ e=false by exact zYg e m z HZ.s (.inr hz1)]at h;unfold bU;rw[<-h];rfl)
      have hz0':0<=z:=by omega
      clear hz0;go_wp2_with fail;go_ret;exact⟨bQ HG.s.symm,HBZ.s⟩
     have hz0':0<=z:=by omega
     have hz1':z<=1048576:=by omega
     have HM2:=uT (show∀(j:Nat) (y:Int),j<m+1->(zFi e)[j]? =some y->0<=y/\y<=1048576 from λj y hj hy=>by
      rcases Nat.lt_or_eq_of_le (Nat.le_of_lt_succ hj)with h|h
      ·exact HM.s j y h hy
      ·subst h;have:=HZ.s;rw[hy]at this;injection this with this;subst this;exact⟨hz0',hz1'⟩)
     clear hz0 hz1;go_wp2_with fail
     go_round
     case rel=>exact⟨m+1,by omega,by go_num,HM2.s⟩
     case measure=>simp[intOf];omega
    ·obtain rfl:m=4:=by omega
     have hb4:=yGm e (λj z hz=>HM.s j z (by
      rcases Nat.lt_or_ge j 4 with h|h
      ·exact h
      ·rw[qU (by simpa[zFi]using h)]at hz;cases hz) hz)
     have HB4:=uT hb4;have hv0:=hb4.2.1.1;have hw0:=hb4.2.2.2.1;clear hb4 HM hm4 hlt4;by_cases hw7:7<e.who
     ·skip
      have HG:=uT (show bU l=false by have h:=HI2.s;rw[show gJ e=false by simp[gJ,inP];omega]at h;unfold bU;rw[<-h];rfl)
      go_wp2_with fail;go_quiet (fail);go_wp2_with fail;go_ret;exact⟨bQ HG.s.symm,below_drewN HBZ.s nq⟩
     have hw7':e.who<=7:=by omega
     have hd7:decide (7<e.who)=false:=by simp;omega
     clear hw7;cases hgo:e.gone with
     |true=>
      rw[hgo]at g4;by_cases hv:e.value=0
      ·have HONE:=uT (show gJ e=true by have h:=HB4.s;simp only[gJ,inP,hgo,hv,qT,decide_eq_true_eq];simp;omega)
       rw[hv]at g1;clear hv hv0 hw0;by_cases hk0:0<k
       ·obtain⟨j,rfl⟩:∃j,k=j+1:=⟨k-1,by omega⟩;obtain⟨b',o',d,hA,_,hd,hcd⟩:=fB cN (by omega) (HR.s.below HBZ.s) (show j<n by omega) HL.s;have d0:wz.cell? ⟨b,o+j*5,none⟩=some (.int .i64 d.key):=by injection hA with hA;injection hA with hA1 hA2;subst hA1 hA2;exact hcd 0 _ rfl
        have HD:=uT (zAw l j d hd);clear hcd hA hd hk0;have hj0:(0:Int)<((j+1:Nat):Int):=by omega
        have hj1:(j:Int)<(n:Int):=by omega
        by_cases hlt2:d.key<e.key
        ·have HI3:=uT (show dO (l.drop (j+1+1)) (zCb l (j+1+1))=dO l none by have h:=HI2.s;rw[HD.s,HONE.s]at h;rw[zAw l (j+1) e HE.s,<-h];simp[above,hlt2])
         clear HI2;go_wp2_with fail;go_quiet (fail);go_wp2_with fail;go_roundw
         case rel=>exact⟨j+1+1,by omega,by go_num,below_drewN HBZ.s nq,HI3.s⟩
         case measure=>simp[intOf];omega
        ·have HG:=uT (show bU l=false by have h:=HI2.s;rw[HD.s]at h;unfold bU;rw[<-h];simp[above,hlt2])
         have hge:e.key<=d.key:=by omega
         clear HI2 hlt2;go_wp2_with fail;go_quiet (fail);go_wp2_with fail;go_ret;exact⟨bQ HG.s.symm,below_drewN HBZ.s nq⟩
       ·obtain rfl:k=0:=by omega
        have HI3:=uT (show dO (l.drop (0+1)) (zCb l (0+1))=dO l none by have h:=HI2.s;rw[HONE.s]at h;rw[zAw l 0 e HE.s,<-h];simp[zCb,above])
        clear HI2 hk0;go_wp2_with fail;go_quiet (fail);go_wp2_with fail;go_roundw
        case rel=>exact⟨0+1,by omega,by go_num,below_drewN HBZ.s nq,HI3.s⟩
        case measure=>simp[intOf];omega
      ·have hv1:(e.value==0)=false:=by simp;exact hv
       have hv2:decide (e.value=0)=false:=by simp;exact hv
       have hv3:(e.value !=0)=true:=by simp;exact hv
       have HG:=uT (show bU l=false by have h:=HI2.s;rw[show gJ e=false by have hpos:0<e.value:=(by omega);simp[gJ,hgo,hpos]]at h;unfold bU;rw[<-h];rfl)
       go_wp2_with fail;go_quiet (fail);go_wp2_with fail;go_ret;exact⟨bQ HG.s.symm,below_drewN HBZ.s nq⟩
     |false=>
      rw[hgo]at g4;have HONE:=uT (show gJ e=true by have h:=HB4.s;simp only[gJ,inP,hgo,qT,decide_eq_true_eq];simp;omega)
      by_cases hk0:0<k
      ·obtain⟨j,rfl⟩:∃j,k=j+1:=⟨k-1,by omega⟩;obtain⟨b',o',d,hA,_,hd,hcd⟩:=fB cN (by omega) (HR.s.below HBZ.s) (show j<n by omega) HL.s;have d0:wz.cell? ⟨b,o+j*5,none⟩=some (.int .i64 d.key):=by injection hA with hA;injection hA with hA1 hA2;subst hA1 hA2;exact hcd 0 _ rfl
       have HD:=uT (zAw l j d hd);clear hcd hA hd hk0;have hj0:(0:Int)<((j+1:Nat):Int):=by omega
       have hj1:(j:Int)<(n:Int):=by omega
       by_cases hlt2:d.key<e.key
       ·have HI3:=uT (show dO (l.drop (j+1+1)) (zCb l (j+1+1))=dO l none by have h:=HI2.s;rw[HD.s,HONE.s]at h;rw[zAw l (j+1) e HE.s,<-h];simp[above,hlt2])
        clear HI2;go_wp2_with fail;go_quiet (fail);go_wp2_with fail;go_roundw
        case rel=>exact⟨j+1+1,by omega,by go_num,below_drewN HBZ.s nq,HI3.s⟩
        case measure=>simp[intOf];omega
       ·have HG:=uT (show bU l=false by have h:=HI2.s;rw[HD.s]at h;unfold bU;rw[<-h];simp[above,hlt2])
        have hge:e.key<=d.key:=by omega
        clear HI2 hlt2;go_wp2_with fail;go_quiet (fail);go_wp2_with fail;go_ret;exact⟨bQ HG.s.symm,below_drewN HBZ.s nq⟩
      ·obtain rfl:k=0:=by omega
       have HI3:=uT (show dO (l.drop (0+1)) (zCb l (0+1))=dO l none by have h:=HI2.s;rw[HONE.s]at h;rw[zAw l 0 e HE.s,<-h];simp[zCb,above])
       clear HI2 hk0;go_wp2_with fail;go_quiet (fail);go_wp2_with fail;go_roundw
       case rel=>exact⟨0+1,by omega,by go_num,below_drewN HBZ.s nq,HI3.s⟩
       case measure=>simp[intOf];omega
  ·obtain rfl:k=n:=by omega
   have HG:=uT (show bU l=true by have h:=HI.s;rw[qW (by rw[HL.s];exact qA _),dO]at h;unfold bU;rw[<-h,HL.s,Bool.true_and];exact decide_eq_true h8')
   have HB:=uT hb;clear HI hb;go_wp2_with fail;go_ret;exact⟨bQ HG.s.symm,HB.s⟩
structure EnR where
 es:List Ent
 A:Option Addr
 c:Nat
def EnR.val(r:EnR):Value:= .slice r.A r.es.length r.c
def EnR.nil:EnR:=⟨[],none,0⟩
structure TabR where
 rs:List EnR
 A:Option Addr
 c:Nat
def TabR.val(t:TabR):Value:= .slice t.A t.rs.length t.c
def TabRd(w:World)(B:Nat)(t:TabR):Prop:=Reads w B 1 t.A t.rs.length (t.rs.map EnR.val)/\∀r∈t.rs,Reads w B 5 r.A r.es.length (r.es.flatMap bD)
theorem TabRd.below{w w':World}{B:Nat}{t:TabR}(h:TabRd w B t)(hb:Below B w w'):TabRd w' B t:=⟨h.1.below hb,λr hr=>(h.2 r hr).below hb⟩
theorem TabRd.more{w:World}{B B':Nat}{t:TabR}(h:TabRd w B t)(hb:B<=B'):TabRd w B' t:=⟨h.1.more hb,λr hr=>(h.2 r hr).more hb⟩
theorem zCv{α:Type}(f:α->Value){w:World}{B n:Nat}{A:Option Addr}{l:List α}(h:Reads w B 1 A n (l.map f)){k:Nat}(hk:k<n):∃b o x,A=some ⟨b,o,none⟩/\b<B/\l[k]? =some x/\w.cell? ⟨b,o+k,none⟩=some (f x):=by
 have hl:l.length=n:=by have:=h.1;rw[qQ]at this;omega
 rw[show l.map f=l.flatMap λx=>[f x]by rw[List.map_eq_flatMap]]at h;obtain⟨b,o,x,e,hb,hx,hc⟩:=fB (cells:=λx=>[f x]) (size:=1) (λ_=>rfl) Nat.one_pos h hk hl;have:=hc 0 _ rfl;simp only[Nat.mul_one,Nat.add_zero]at this;exact⟨b,o,x,e,hb,hx,this⟩
section
open Go.RowKit Go.ChangeShapes Go.WideShapes Go.Deep
structure IRw where
 A:Option Addr
 n:Nat
 c:Nat
 zs:List Int
def IRw.val(r:IRw):Value:= .slice r.A r.n r.c
def IRw.ok(r:IRw)(w:World)(B:Nat):Prop:=r.zs.length=r.n/\r.n<=r.c/\r.c<=maxLen/\Reads w B 1 r.A r.n (r.zs.map (.int .i64))
section
variable {w w':World}{B B' n:Nat}{A:Option Addr}{r:IRw}
theorem IRw.ok.keep(h:r.ok w B)(hk:∀p:Addr,p.block<B->w'.cell? p=w.cell? p):r.ok w' B:=⟨h.1,h.2.1,h.2.2.1,h.2.2.2.keep hk⟩
theorem IRw.ok.below(h:r.ok w B)(hb:Below B w w'):r.ok w' B:=h.keep λ_ hp=>hb.cell hp
theorem IRw.ok.more(h:r.ok w B)(hB:B<=B'):r.ok w B':=⟨h.1,h.2.1,h.2.2.1,h.2.2.2.more hB⟩
end
end
def St3(w:World)(B:Nat)(v:Value)(P:List (List (List Ent))):Prop:=
 ∃A c,∃ts:List TabR,v= .slice A ts.length c/\Reads w B 1 A ts.length (ts.map TabR.val)/\(∀t∈ts,TabRd w B t)/\ts.map (λt=>t.rs.map EnR.es)=P
theorem St3.below{w w':World}{B:Nat}{v:Value}{P:List (List (List Ent))}(h:St3 w B v P)(hb:Below B w w'):St3 w' B v P:=by obtain⟨A,c,ts,h1,h2,h3,h4⟩:=h;exact⟨A,c,ts,h1,h2.below hb,λt ht=>(h3 t ht).below hb,h4⟩
theorem St3.more{w:World}{B B':Nat}{v:Value}{P:List (List (List Ent))}(h:St3 w B v P)(hb:B<=B'):St3 w B' v P:=by obtain⟨A,c,ts,h1,h2,h3,h4⟩:=h;exact⟨A,c,ts,h1,h2.more hb,λt ht=>(h3 t ht).more hb,h4⟩
theorem St3.nil(w:World)(B:Nat):St3 w B (.slice none 0 0) []:=⟨none,0,[],rfl,Reads.none_,λt h=>by simp at h,rfl⟩
end Go.Proofs.YtbolcebmbpepdaaGreatDoor
