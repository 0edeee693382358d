/- Contracts. Conditions: those each states. -/
import Derived.Test.YtbolcebmbpepdaaGreatDoorM09
import Derived.Test.YtbolcebmbpepdaaGreatDoorM05
namespace Go.Proofs.YtbolcebmbpepdaaGreatDoor
set_option maxRecDepth 100000
set_option maxHeartbeats 8000000
set_option linter.all false
open Go.RowKit Tryz
theorem zFk{D:Nat->Prop}{g:Nat}{a:World}:∀(vs:List Value) (o:Nat) (w:World),Only D a w->D g->Only D a (w.setCells g o vs)
 |[],o,w,h,hg=>h
 |v::vs,o,w,h,hg=>zFk vs (o+1) _ (h.setCell (λ_=>hg) v) hg
def zEo(f:Hd->Bool):List Hd->Nat->Int
 |[],_=> -1
 |e::l,k=>if f e then k else zEo f l (k+1)
theorem yAx(fn:FuncId)(f:Hd->Bool)(A:Option Addr)(n c:Nat)(l:List Hd)(B:Nat)(w:World)(hl:l.length=n)(hm:n*24<=140737488351232)(hr:Reads w B 3 A n (l.flatMap Hd.cells))(hB:B<=w.heap.size)(hrun:∀args W,(callFunc fn args).run prog W= .ok (.enter fn args) W)(h:∀(e:Hd) W,Calls prog fn #[.agg #[.int .i64 e.id,.int .i64 e.count,.int .i64 e.life]] W λx w'=>x= .returned (.bool (f e))/\uR W w'):Calls prog 140 #[.slice A n c,.func (.func fn) #[] #[]] w λe w'=>e= .returned (.int .i64 (zEo f l 0))/\uR w w':=by
 obtain⟨HR,HL,H⟩:=uJ (hr.more hB) hl h;clear hr hl h;go_enter func140,ntmps140;go_wp2_with fail
 go_loopw [8] (λi wr=>∃(k:Nat),k<=n/\i= .int .i64 k/\uR w wr/\uS (zEo f (l.drop k) k=zEo f l 0)) (λi _=>n-(intOf i).toNat)
 case atStart=>exact⟨0,qL _,rfl,qC _ _,rfl⟩
 case round=>
  obtain⟨k,hk,rfl,hb,HI⟩:=hrel;by_cases hlt:k<n
  ·obtain⟨b,o,e,rfl,hbl,he,hc⟩:=fB Hd.cells_len (by omega) (HR.s.below hb) hlt HL.s;have c0:wr.cell? ⟨b,o+k*3,none⟩=some (.int .i64 e.id):=hc 0 _ rfl;have c1:wr.cell? ⟨b,o+k*3+1,none⟩=some (.int .i64 e.count):=hc 1 _ rfl;have c2:wr.cell? ⟨b,o+k*3+2,none⟩=some (.int .i64 e.life):=hc 2 _ rfl;obtain⟨HI2,HBB⟩:=uI (by have h:=HI.s;rw[cZ l k e he,zEo]at h;exact h) hb;clear HI hc he hb;cases hf:f e with
   |true=>obtain⟨HI3,H2⟩:=uI (by have h:=HI2.s;rw[if_pos hf]at h;exact h) (H.s e);rw[hf]at H2;clear HI2;go_wp2_with fail;refine(H2.s _).mono ?_;rintro _ w2 ⟨rfl,hb2⟩;have HB2:=uT (HBB.s.trans (hb2.mono HBB.s.size));clear hb2;go_wp2_with fail;go_ret;exact⟨fG HI3.s,HB2.s⟩
   |false=>
    obtain⟨HI3,H2⟩:=uI (by have h:=HI2.s;rw[if_neg (by rw[hf];simp)]at h;exact h) (H.s e);rw[hf]at H2;clear HI2;go_wp2_with fail;refine(H2.s _).mono ?_;rintro _ w2 ⟨rfl,hb2⟩;have HB2:=uT (HBB.s.trans (hb2.mono HBB.s.size));clear hb2;go_wp2_with fail;go_roundw
    case rel=>exact⟨k+1,by omega,by go_num,HB2.s,HI3.s⟩
    case measure=>simp[intOf];omega
  ·obtain rfl:k=n:=by omega
   have HF:=uT (show zEo f l 0= -1 by have h:=HI.s;rw[qW (by rw[HL.s];exact qA _)]at h;exact h.symm)
   have HBB:=uT hb;clear HI hb;go_wp2_with fail;go_ret;exact⟨fG HF.s.symm,HBB.s⟩
theorem zWz(fn:FuncId)(q:Value)(f:Hd->Bool)(A:Option Addr)(n c:Nat)(l:List Hd)(B:Nat)(w:World)(hl:l.length=n)(hm:n*24<=140737488351232)(hr:Reads w B 3 A n (l.flatMap Hd.cells))(hB:B<=w.heap.size)(hrun:∀args W,(callFunc fn args).run prog W= .ok (.enter fn args) W)(h:∀(e:Hd) W,uR w W->Calls prog fn #[.agg #[.int .i64 e.id,.int .i64 e.count,.int .i64 e.life],q] W λx w'=>x= .returned (.bool (f e))/\uR W w'):Calls prog 140 #[.slice A n c,.func (.func fn) #[] #[q]] w λe w'=>e= .returned (.int .i64 (zEo f l 0))/\uR w w':=by
 obtain⟨HR,HL,H⟩:=uJ (hr.more hB) hl h;clear hr hl h;go_enter func140,ntmps140;go_wp2_with fail
 go_loopw [8] (λi wr=>∃(k:Nat),k<=n/\i= .int .i64 k/\uR w wr/\uS (zEo f (l.drop k) k=zEo f l 0)) (λi _=>n-(intOf i).toNat)
 case atStart=>exact⟨0,qL _,rfl,qC _ _,rfl⟩
 case round=>
  obtain⟨k,hk,rfl,hb,HI⟩:=hrel;by_cases hlt:k<n
  ·obtain⟨b,o,e,rfl,hbl,he,hc⟩:=fB Hd.cells_len (by omega) (HR.s.below hb) hlt HL.s;have c0:wr.cell? ⟨b,o+k*3,none⟩=some (.int .i64 e.id):=hc 0 _ rfl;have c1:wr.cell? ⟨b,o+k*3+1,none⟩=some (.int .i64 e.count):=hc 1 _ rfl;have c2:wr.cell? ⟨b,o+k*3+2,none⟩=some (.int .i64 e.life):=hc 2 _ rfl;obtain⟨HI2,HBB⟩:=uI (by have h:=HI.s;rw[cZ l k e he,zEo]at h;exact h) hb;clear HI hc he hb;cases hf:f e with
   |true=>obtain⟨HI3,H2⟩:=uI (by have h:=HI2.s;rw[if_pos hf]at h;exact h) (H.s e);rw[hf]at H2;clear HI2;go_wp2_with fail;refine(H2.s _ HBB.s).mono ?_;rintro _ w2 ⟨rfl,hb2⟩;have HB2:=uT (HBB.s.trans (hb2.mono HBB.s.size));clear hb2;go_wp2_with fail;go_ret;exact⟨fG HI3.s,HB2.s⟩
   |false=>
    obtain⟨HI3,H2⟩:=uI (by have h:=HI2.s;rw[if_neg (by rw[hf];simp)]at h;exact h) (H.s e);rw[hf]at H2;clear HI2;go_wp2_with fail;refine(H2.s _ HBB.s).mono ?_;rintro _ w2 ⟨rfl,hb2⟩;have HB2:=uT (HBB.s.trans (hb2.mono HBB.s.size));clear hb2;go_wp2_with fail;go_roundw
    case rel=>exact⟨k+1,by omega,by go_num,HB2.s,HI3.s⟩
    case measure=>simp[intOf];omega
  ·obtain rfl:k=n:=by omega
   have HF:=uT (show zEo f l 0= -1 by have h:=HI.s;rw[qW (by rw[HL.s];exact qA _)]at h;exact h.symm)
   have HBB:=uT hb;clear HI hb;go_wp2_with fail;go_ret;exact⟨fG HF.s.symm,HBB.s⟩
theorem zOd(f:Hd->Bool):∀(l:List Hd) (k:Nat),(zEo f l k= -1/\∀e∈l,f e=false)\/∃i e,i<l.length/\zEo f l k=((k+i:Nat):Int)/\(∀x∈l.take i,f x=false)/\l[i]? =some e/\f e=true
 |[],k=> .inl ⟨rfl,by simp⟩
 |e::l,k=>by
  cases hf:f e with
  |true=>exact .inr ⟨0,e,by simp,by rw[zEo,if_pos hf];simp,by simp,rfl,hf⟩
  |false=>
   have e1:zEo f (e::l) k=zEo f l (k+1):=by rw[zEo,if_neg (by rw[hf];simp)]
   rcases zOd f l (k+1)with⟨h1,h2⟩|⟨i,x,h0,h1,h2,h3,h4⟩
   ·exact .inl ⟨by rw[e1,h1],λy hy=>by rcases jD.1 hy with rfl|hy;exact hf;exact h2 y hy⟩
   ·refine .inr ⟨i+1,x,by simp;omega,by rw[e1,h1];congr 1;omega,?_,by simpa using h3,h4⟩;intro y hy;rw[qX]at hy;rcases jD.1 hy with rfl|hy
    ·exact hf
    ·exact h2 y hy
theorem zVa(f:Hd->Bool)(l:List Hd)(h:∀e∈l,f e=false):l.filter (λe=> !f e)=l:=
 List.filter_eq_self.2 λe he=>by rw[h e he];rfl
theorem zGf(l:List Hd):(l.flatMap Hd.cells).length=l.length*3:=by
 induction l with
 |nil=>rfl
 |cons e l ih=>rw[jU,qM,ih,jG];simp[Hd.cells];omega
def HDel(g:Nat)(wr:World)(kept:List Hd)(M:List Value)(ds:List Hd)(T:List Value):Prop:=Blk wr g 161 (kept.flatMap Hd.cells++M++(ds.flatMap Hd.cells++T)).toArray
theorem HDel.cell{g:Nat}{wr:World}{kept ds:List Hd}{M T:List Value}{e:Hd}(h:HDel g wr kept M (e::ds) T)(j:Nat)(hj:(kept.flatMap Hd.cells++M).length=j*3)(r:Nat)(v:Value)(hr:(Hd.cells e)[r]? =some v):wr.cell? ⟨g,j*3+r,none⟩=some v:=by
 rw[Blk.cell h];have hr5:r<3:=by have:=(qK.1 hr).1;simpa[Hd.cells]using this
 simp only[jH];rw[uG (by omega),hj];rw[show j*3+r-j*3=r by omega,jU,jK,List.getElem?_append_left (by simpa[Hd.cells]using hr5)];exact hr
theorem HDel.skip{g:Nat}{wr:World}{kept ds:List Hd}{M T:List Value}{e:Hd}(h:HDel g wr kept M (e::ds) T):HDel g wr kept (M++Hd.cells e) ds T:=by unfold HDel at h⊢;simpa[jU]using h
theorem HDel.put{g:Nat}{wr:World}{kept ds:List Hd}{M T:List Value}{e:Hd}(h:HDel g wr kept M (e::ds) T)(i:Nat)(hi:kept.length=i)(hM:3<=M.length):HDel g (wr.setCells g (i*3) (Hd.cells e)) (kept++[e]) (M.drop 3++Hd.cells e) ds T:=by
 unfold HDel at h⊢;have hs:=Blk.setCells_ (Hd.cells e) (kept.flatMap Hd.cells) (M.take 3) (M.drop 3++(Hd.cells e++(ds.flatMap Hd.cells++T))) wr (by
  have e1:M.take 3++M.drop 3=M:=jW 3 M;have e2:kept.flatMap Hd.cells++M.take 3++(M.drop 3++(Hd.cells e++(ds.flatMap Hd.cells++T)))=kept.flatMap Hd.cells++M++((e::ds).flatMap Hd.cells++T):=by rw[jU,jK,<-jK (M.take 3),e1];simp
  rw[e2];exact h) (by simp[Hd.cells];omega)
 rw[zGf,hi]at hs;simpa using hs
theorem zWq(fn:FuncId)(f:Hd->Bool)(base:Nat)(A:Option Addr)(n c:Nat)(l:List Hd)(w:World)(hm:n*24<=140737488351232)(hown:w.ownsRow base 161 3 (.slice A n c) n (l.flatMap Hd.cells))(hl:l.length=n)(hB:base<=w.heap.size)(hrun:∀args W,(callFunc fn args).run prog W= .ok (.enter fn args) W)(h:∀(e:Hd) W,Calls prog fn #[.agg #[.int .i64 e.id,.int .i64 e.count,.int .i64 e.life]] W λx w'=>x= .returned (.bool (f e))/\uR W w'):Calls prog 123 #[.slice A n c,.func (.func fn) #[] #[]] w λe w'=>∃v,e= .returned v/\w'.ownsRow base 161 3 v (l.filter λe=> !f e).length ((l.filter λe=> !f e).flatMap Hd.cells)/\Only (λk=>(Value.slice A n c).ownBlock=some k) w w'/\∀k,v.ownBlock=some k->(Value.slice A n c).ownBlock=some k:=by
 obtain⟨HIX,H,HL⟩:=uJ (yAx fn f A n c l w.heap.size w hl hm (Reads.of_own hown) (qA _) hrun h) h hl;clear h;rcases zOd f l 0 with⟨h1,h2⟩|⟨i,e,hi0,h1,h2,h3,h4⟩
 ·rw[h1]at HIX;have hk:=zVa f l h2;have HO:=uT hown;clear hown hl;go_enter func123,ntmps123;go_wp2_with fail;refine HIX.s.mono ?_;rintro _ w2 ⟨rfl,hb2⟩;have HB2:=uT hb2;clear hb2;go_wp2_with fail;go_ret;refine⟨_,rfl,?_,Only.of_below HB2.s (λx hx h=>by omega),λk hk=>hk⟩;rw[hk,HL.s];have hb:=HB2.s;exact HO.s.kept (row:=none) ⟨hb.os,hb.tape,hb.output,hb.size,λk hk _=>hb.block k hk⟩ (Classical.em _)
 ·rw[h1,Nat.zero_add]at HIX;rcases hown.2 with⟨hv,hx⟩|⟨g,cap,cur,hv,hbg,hblk,hnc,hcm,hcs,htk⟩
  ·omega
  ·injection hv with hA hn hc;subst hA;subst hc;have hcur:cur=(((l.take i).flatMap Hd.cells)++[]++((l.drop i).flatMap Hd.cells++cur.toList.drop (n*3))).toArray:=by rw[<-uD];simp only[jR];rw[<-jK,<-jN,jW,<-htk,jW]
   have hrow:HDel g w (l.take i) [] (l.drop i) (cur.toList.drop (n*3)):=by unfold HDel;rw[<-hcur];exact hblk
   have hilen:i<n:=by rw[<-hl];exact hi0
   have hlti:(l.take i).length=i:=by rw[qY];omega
   rw[cZ l i e h3]at hrow;have hrow1:=hrow.skip;rw[List.nil_append]at hrow1;have HROW:=uT hrow1;have hglt:g<w.heap.size:=Blk.lt hblk;obtain⟨T,hT⟩:=kB (cur.toList.drop (n*3));have HTL:=uT (show n*3+T.length=c*3 by rw[hT,List.length_drop,Array.length_toList,hcs];omega);rw[<-hT]at HROW;have hfil:(l.take i)++(l.drop (i+1)).filter (λe=> !f e)=l.filter (λe=> !f e):=by
    conv=>rhs;rw[<-jW i l,List.filter_append,zVa f _ h2,cZ l i e h3,List.filter_cons,h4]
    simp
   obtain⟨HFIL,HLT⟩:=uI hfil hlti;clear hown hcur hrow hrow1 hblk htk hl h1 h2 h3 h4 hfil hlti hi0 hcs hT;go_enter func123,ntmps123;go_wp2_with fail;refine HIX.s.mono ?_;rintro _ w2 ⟨rfl,hb2⟩;obtain⟨HROW2,HB2⟩:=uI (show HDel g w2 (l.take i) (Hd.cells e) (l.drop (i+1)) T from Blk.below HROW.s hb2 hglt) (Only.of_below (D:=λk=>(Value.slice (some ⟨g,0,none⟩) n c).ownBlock=some k) hb2 λx hx h=>by omega);have hglt2:g<w2.heap.size:=jQ hglt hb2.size;clear hb2 HROW HIX;go_wp2_with fail;have hbe:((i:Int)== -1)=false:=by rw[beq_eq_false_iff_ne];omega
   rw[hbe];clear hbe
   go_loopw [5,6] (λx y wr=>∃(p j:Nat) (kept:List Hd) (M:List Value),p<j/\j<=n/\x= .int .i64 p/\y= .int .i64 j/\g<wr.heap.size/\Only (λk=>(Value.slice (some ⟨g,0,none⟩) n c).ownBlock=some k) w wr/\uS (kept.length=p/\M.length=(j-p)*3/\HDel g wr kept M (l.drop j) T/\kept++(l.drop j).filter (λe=> !f e)=l.filter λe=> !f e)) (λ_ y _=>n-(intOf y).toNat)
   case atStart=>exact⟨i,i+1,l.take i,Hd.cells e,by omega,by omega,rfl,by go_num,hglt2,HB2.s,HLT.s,by rw[show i+1-i=1 by omega];rfl,HROW2.s,HFIL.s⟩
   case round=>
    obtain⟨p,j,kept,M,hpj,hjn,rfl,rfl,hgw,hb,HI⟩:=hrel;by_cases hlt:j<n
    ·obtain⟨d,hd⟩:∃d,l[j]? =some d:=⟨_,qI (by rw[HL.s];exact hlt)⟩;have HI2:=uT (show kept.length=p/\M.length=(j-p)*3/\HDel g wr kept M (d::l.drop (j+1)) T/\kept++(d::l.drop (j+1)).filter (λe=> !f e)=l.filter (λe=> !f e)by
      have h:=HI.s
      rwa[cZ l j d hd]at h)
     have hKM:(kept.flatMap Hd.cells++M).length=j*3:=by rw[qM,zGf,HI2.s.1,HI2.s.2.1];omega
     have c0:wr.cell? ⟨g,j*3,none⟩=some (.int .i64 d.id):=HI2.s.2.2.1.cell j hKM 0 _ rfl;have c1:wr.cell? ⟨g,j*3+1,none⟩=some (.int .i64 d.count):=HI2.s.2.2.1.cell j hKM 1 _ rfl;have c2:wr.cell? ⟨g,j*3+2,none⟩=some (.int .i64 d.life):=HI2.s.2.2.1.cell j hKM 2 _ rfl;obtain⟨HBB,H2⟩:=uI hb (H.s d);clear HI hd hKM hb;cases hf:f d with
     |true=>
      rw[hf]at H2;have HI3:=uT (show kept++(l.drop (j+1)).filter (λe=> !f e)=l.filter (λe=> !f e)by have h:=HI2.s.2.2.2;rw[List.filter_cons,hf]at h;simpa using h)
      have HR3:=uT HI2.s.2.2.1.skip;have HM3:=uT (show(M++Hd.cells d).length=(j+1-p)*3 by rw[qM,HI2.s.2.1];simp[Hd.cells];omega);have HK3:=uT HI2.s.1;clear HI2;go_wp2_with fail;refine(H2.s _).mono ?_;rintro _ w3 ⟨rfl,hb3⟩;have hs3:=hb3.size;simp at hs3;obtain⟨HB3,HR4⟩:=uI ((HBB.s.alloc _).calm hb3) (show HDel g w3 kept (M++Hd.cells d) (l.drop (j+1)) T from Blk.below (Blk.alloc HR3.s _) hb3 (by simp;omega));clear hb3 HR3 HBB;go_wp2_with fail;go_roundw
      case rel=>exact⟨p,j+1,kept,M++Hd.cells d,by omega,by omega,rfl,by go_num,by omega,HB3.s,HK3.s,HM3.s,HR4.s,HI3.s⟩
      case measure=>simp[intOf];omega
     |false=>
      rw[hf]at H2;have hM5:3<=M.length:=by rw[HI2.s.2.1];omega
      have HI3:=uT (show(kept++[d])++(l.drop (j+1)).filter (λe=> !f e)=l.filter (λe=> !f e)by have h:=HI2.s.2.2.2;rw[List.filter_cons,hf]at h;simpa using h)
      have HR3:=uT HI2.s.2.2.1;have HM3:=uT (show(M.drop 3++Hd.cells d).length=(j+1-(p+1))*3 by rw[qM,List.length_drop,HI2.s.2.1];simp[Hd.cells];omega);have HK3:=uT HI2.s.1;have HM5:=uT hM5;clear HI2 hM5;go_wp2_with fail;refine(H2.s _).mono ?_;rintro _ w3 ⟨rfl,hb3⟩;have hs3:=hb3.size;simp at hs3;obtain⟨HB3,HR4⟩:=uI ((HBB.s.alloc _).calm hb3) (show HDel g w3 kept M (d::l.drop (j+1)) T from Blk.below (Blk.alloc HR3.s _) hb3 (by simp;omega));have hvar:=Blk.below (Blk.new wr 161 #[.int .i64 d.id,.int .i64 d.count,.int .i64 d.life]) hb3 (by simp);have v0:w3.cell? ⟨wr.heap.size,0,none⟩=some (.int .i64 d.id):=hvar.cell 0;have v1:w3.cell? ⟨wr.heap.size,1,none⟩=some (.int .i64 d.count):=hvar.cell 1;have v2:w3.cell? ⟨wr.heap.size,2,none⟩=some (.int .i64 d.life):=hvar.cell 2;have hst:∀r,r<3->∃u,w3.cell? ⟨g,p*3+r,none⟩=some u:=λr hr=>by have h:=Blk.cell HR4.s (p*3+r);have hkl:=zGf kept;rw[HK3.s]at hkl;have hM:=HM5.s;rw[h];simp only[jH];exact⟨_,qI (by simp only[qM,hkl];omega)⟩
      obtain⟨u0,s0⟩:=hst 0 (by omega);obtain⟨u1,s1⟩:=hst 1 (by omega);obtain⟨u2,s2⟩:=hst 2 (by omega);rw[Nat.add_zero]at s0;have z0:w3.frozen? ⟨g,p*3,none⟩=false:=Blk.frozen HR4.s _;have z1:w3.frozen? ⟨g,p*3+1,none⟩=false:=Blk.frozen HR4.s _;have z2:w3.frozen? ⟨g,p*3+2,none⟩=false:=Blk.frozen HR4.s _;obtain⟨HR5,HB5⟩:=uI (HR4.s.put p HK3.s HM5.s) (zFk (g:=g) (Hd.cells d) (p*3) w3 HB3.s rfl);clear hb3 HR3 HBB hvar hst HR4;have hpn:(p:Int)<(n:Int):=by omega
      go_wp2_with fail;go_roundw
      case rel=>exact⟨p+1,j+1,kept++[d],M.drop 3++Hd.cells d,by omega,by omega,by go_num,by go_num,by simp;omega,HB5.s,by rw[qM,HK3.s];rfl,HM3.s,HR5.s,HI3.s⟩
      case measure=>simp[intOf];omega
    ·obtain rfl:j=n:=by omega
     obtain⟨i0,hi,hz0,hz1,hz2⟩:=zNr;have hI:=HI.s;have hdl:l.drop j=[]:=qW (by rw[HL.s];exact qA _);rw[hdl]at hI;obtain⟨hK,hM,hRow,hF⟩:=hI;simp only[List.filter_nil,jR]at hF;have hkl:=zGf kept;rw[hK]at hkl;have hlen:((kept.flatMap Hd.cells++M++(([]:List Hd).flatMap Hd.cells++T))).length=c*3:=by have:=HTL.s;simp only[qM,hkl,hM,List.flatMap_nil,List.length_nil];omega
     obtain⟨zs,hzl,hclr⟩:=zKr (P:=prog) wr 82 161 i0 _ 3 underlying82 hi hz0 rfl (by intro u hu;simp[Value.cells]at hu;rcases hu with rfl|rfl<;>rfl) g (p*3) (j-p) (c-p) (by omega)
      (λr hr=>by rw[Blk.cell hRow,jH,qI (by rw[hlen];have:=HTL.s;omega)];rfl)
      (λr hr=>Blk.frozen hRow _)
     have hpn:(p:Int)<(j:Int):=by omega
     have hpc:(p:Int)<=(c:Int):=by omega
     have hjc:(j:Int)<=(c:Int):=by omega
     have HB5:=uT (zFk (g:=g) zs (p*3) wr hb rfl);have hrow2:Blk (wr.setCells g (p*3) zs) g 161 (kept.flatMap Hd.cells++zs++T).toArray:=by
      have h:=Blk.setCells_ zs (kept.flatMap Hd.cells) M T wr (by have h0:=hRow;unfold HDel at h0;simpa using h0) (by rw[hM,hzl])
      rwa[hkl]at h
     have HO:=uT (show(wr.setCells g (p*3) zs).ownsRow base 161 3 (.slice (some ⟨g,0,none⟩) p c) p (kept.flatMap Hd.cells)from
      ⟨hkl,.inr ⟨g,c,_,rfl,hbg,hrow2,by omega,hcm,by
       have:=hlen;simp only[qM,hM,List.flatMap_nil,List.length_nil]at this;simp only[List.size_toArray,qM,hzl];omega,by
       show(kept.flatMap Hd.cells++zs++T).take (p*3)=_;rw[jK,uF (by omega),qS (by omega)]⟩⟩)
     obtain⟨HK,HFF⟩:=uI hK hF;clear hRow hrow2 hlen hzl hM hkl hdl HI hb hK hF;go_wp2_with fail;go_ret;refine⟨_,rfl,?_,HB5.s,λk hk=>hk⟩;rw[<-HFF.s,HK.s];exact HO.s
theorem zIe{base g n cap size:Nat}{e:TypeId}{xs:List Value}:∀(zs:List Value) (o:Nat) (w:World),w.ownsRow base e size (.slice (some ⟨g,0,none⟩) n cap) n xs->n*size<=o->(w.setCells g o zs).ownsRow base e size (.slice (some ⟨g,0,none⟩) n cap) n xs
 |[],o,w,h,ho=>h
 |z::zs,o,w,h,ho=>by have h1:=h.stored o z;rw[List.set_eq_of_length_le (by rw[h.1];exact ho)]at h1;exact zIe zs (o+1) _ h1.1 (by omega)
theorem hd_one(l:List Hd):∀u∈l.flatMap Hd.cells,u.oneCell'=true:=by intro u hu;obtain⟨e,_,he⟩:=List.mem_flatMap.1 hu;simp[Hd.cells]at he;rcases he with rfl|rfl|rfl<;>rfl
def HdPost(base:Nat)(v0:Value)(l:List Hd)(w:World)(e:Ending)(w':World):Prop:=
 ∃v,e= .returned v/\w'.ownsRow base 161 3 v l.length (l.flatMap Hd.cells)/\Only (λk=>v0.ownBlock=some k) w w'/\∀k,v.ownBlock=some k->v0.ownBlock=some k
theorem zZv(base:Nat)(A:Option Addr)(m c i:Nat)(l:List Hd)(w:World)(him:i<=m)(hm:m<=1000)(hown:w.ownsRow base 161 3 (.slice A (m+1) c) (m+1) (l.flatMap Hd.cells))(hl:l.length=m+1):Calls prog 142 #[.slice A (m+1) c,.int .i64 i,.int .i64 (i+1)] w (HdPost base (.slice A (m+1) c) (l.take i++l.drop (i+1)) w):=by
 obtain⟨i0,hi,hz0,hz1,hz2⟩:=zNr;obtain⟨g,cap,hv,hbg,hglt⟩:=hown.form (by omega);injection hv with hA hn hc;clear hn;subst hA hc;obtain⟨_,hnc,hcm⟩:=fH hown;have b1:(i:Int)<=(i:Int)+1:=by omega
 have b2:(i:Int)+1<=(m:Int)+1:=by omega
 have b2':(i:Int)<=(m:Int):=by omega
 have b3:(m:Int)+1<=(c:Int):=by omega
 have b4:((i:Int)==(i:Int)+1)=false:=by simp;omega
 have b5:¬ c=m:=by omega
 have htk:=own_take hown (show i<=m+1 by omega);rw[zNb Hd.cells_len]at htk;have hdl:((l.drop (i+1)).flatMap Hd.cells).length=(m-i)*3:=by rw[zEp Hd.cells_len,List.length_drop,hl,Nat.add_sub_add_right]
 have hdc:∀ad,(if c=i+1 then some (⟨g,0,none⟩:Addr)else some ⟨g,(i+1)*3,none⟩)=some ad->∀j u,((l.drop (i+1)).flatMap Hd.cells)[j]? =some u->w.cell? (ad.add j)=some u:=by intro ad had j u hj;have hjl:=(qK.1 hj).1;rw[hdl]at hjl;rw[if_neg (by omega)]at had;injection had with had;subst had;rw[<-zMz Hd.cells_len,List.getElem?_drop]at hj;rw[Addr.add_lit];exact zAr hown ((i+1)*3+j) hj
 obtain⟨HTK,HDL,HDC⟩:=uJ htk hdl hdc;have hroom:i+(m-i)<=c:=by omega
 have hnone:(if c=i+1 then some (⟨g,0,none⟩:Addr)else some ⟨g,(i+1)*3,none⟩)=none->m-i=0/\c-(i+1)=0:=by split<;>(intro h;cases h)
 have HNONE:=uT hnone;have he:i+(m-i)=m:=by omega
 obtain⟨HE,HLN⟩:=uI he (show(l.take i++l.drop (i+1)).length=m by simp;omega);unfold maxLen at hcm;clear hown hl htk hdl hdc hnone he;go_enter func142,ntmps142;go_wp2_with fail;refine gW [0,1,3,4] [2,5] [] [] 6 [7] (by kernel_rfl) (by kernel_rfl) (by intro c a d v w h;cases d<;>exact h) ?_;simp only[bB,qJ,qO,qD,qE]
 repeat(go_big_quiet_step (fail))
 refine qF ?_
 repeat(go_big_quiet_step (fail))
 refine qF (qF ?_);rintro _ ⟨nq,rfl⟩;simp only[fJ];generalize(if c=i+1 then some (⟨g,0,none⟩:Addr)else some ⟨g,(i+1)*3,none⟩)=ao at*;refine wpList_append_fits_any _ rfl (.tmp 22) (.tmp 25) _ rfl base 161 i0 3 underlying82 hi hz1 g i c ((l.take i).flatMap Hd.cells) rfl HTK.s _ (m-i) _ ((l.drop (i+1)).flatMap Hd.cells) rfl HDL.s HNONE.s HDC.s (hd_one _) hroom ?_;intro w4 hown4 hgr4;rw[HE.s]at hown4⊢;rw[<-jN]at hown4;obtain⟨zs,hzl,hclr⟩:=zKr (P:=prog) w4 82 161 i0 _ 3 underlying82 hi hz0 rfl (by intro u hu;simp[Value.cells]at hu;rcases hu with rfl|rfl<;>rfl) g (m*3) 1 (c-m) (by omega)
  (λr hr=>(zDm hown4 (m*3+r) (by omega)).1) (λr hr=>(zDm hown4 (m*3+r) (by omega)).2)
 have HOW:=uT (zIe zs (m*3) w4 hown4 (qA _));have hO4:Only (λk=>(Value.slice (some ⟨g,0,none⟩) (m+1) c).ownBlock=some k) w w4:=Only.grown ((Only.refl _ w).drewN nq) hgr4 (λx hx _=>by injection hx with hx;subst hx;rfl);have HOO:=uT (zFk (g:=g) zs (m*3) w4 hO4 rfl);clear hO4 hown4 hgr4 hzl;go_wp2_with fail;go_ret;exact⟨_,rfl,by rw[HLN.s];exact HOW.s,HOO.s,λk hk=>hk⟩
theorem yHo{s:Shf}{id:Int}{b:Bool}(h:¬ (id<1\/s.made<id))(hf:∀x∈s.opn,(x.id==id)=false):zBf s id b=(s,10):=by
 unfold zBf;rw[if_neg h];have:s.opn.find? (λh=>h.id==id)=none:=List.find?_eq_none.2 λx hx=>by rw[hf x hx];simp
 rw[this]
theorem shut_at{s:Shf}{K id:Int}{b:Bool}(hk:s.ok K)(h:¬ (id<1\/s.made<id)){i:Nat}{x:Hd}(hx:s.opn[i]? =some x)(hid:(x.id==id)=true)(hf:∀y∈s.opn.take i,(y.id==id)=false):zBf s id b=(⟨if b then s.free else s.free+x.count,if b then s.used+x.count else s.used,s.made,s.opn.take i++s.opn.drop (i+1)⟩,0):=by
 have hl:s.opn=s.opn.take i++x::s.opn.drop (i+1):=by rw[<-cZ s.opn i x hx,jW]
 have hfi:s.opn.find? (λh=>h.id==id)=some x:=by rw[hl,List.find?_append,List.find?_eq_none.2 λy hy=>by rw[hf y hy];simp];simp[hid]
 have hids:=hk.ids;have hfl:(s.opn.filter λh=> !(h.id==id))=s.opn.take i++s.opn.drop (i+1):=by
  have h2:∀y∈s.opn.drop (i+1),(y.id==id)=false:=λy hy=>by
   rw[hl,jA,List.pairwise_append,qJ,List.pairwise_cons]at hids;have:=hids.2.1.1 y.id (jC.2 ⟨y,hy,rfl⟩);have e:x.id=id:=by simpa using hid
   simp;omega
  conv=>lhs;rw[hl]
  rw[List.filter_append,List.filter_cons,hid,List.filter_eq_self.2 λy hy=>by rw[hf y hy];rfl,List.filter_eq_self.2 λy hy=>by rw[h2 y hy];rfl];simp
 unfold zBf;rw[if_neg h,hfi,hfl]
def ClPost(base g o:Nat)(cs:Array Value)(v:Value)(w:World)(r:Shf×Int)(e:Ending)(w':World):Prop:=
 ∃v',e= .returned (.int .i64 r.2)/\ShAt w' base g o (putAt cs o (r.1.cells v')) r.1 v'/\Only (λk=>k=g\/v.ownBlock=some k) w w'/\(∀k,v'.ownBlock=some k->v.ownBlock=some k\/w.heap.size<=k)
theorem zKd{base g o:Nat}{cs:Array Value}{s:Shf}{v:Value}{w w':World}{a:Int}(h:ShAt w' base g o cs s v)(hb:uR w w'):ClPost base g o cs v w (s,a) (.returned (.int .i64 a)) w':=
 ⟨v,rfl,by rw[zFw cs o _ h.has];exact h,Only.of_below hb λx hx hB=>by omega,λk hk=> .inl hk⟩
theorem zYo(x:Hd)(q:Nat)(id:Int)(w:World)(hq:w.cell? ⟨q,0,none⟩=some (.int .i64 id)):Calls prog 141 #[.agg #[.int .i64 x.id,.int .i64 x.count,.int .i64 x.life],.pointer (some ⟨q,0,none⟩)] w λe w'=>e= .returned (.bool (x.id==id))/\uR w w':=by
 obtain⟨a,b,c⟩:=x;have hlt:q<w.heap.size:=by
  refine Nat.not_le.1 λhc=> ?_
  have:w.heap[q]? =none:=Array.getElem?_eq_none hc;unfold World.cell? at hq;simp[this]at hq
 have hq2:=(World.cell?_alloc_lt w (.cells #[.int .i64 a,.int .i64 b,.int .i64 c] 161) ⟨q,0,none⟩ hlt).trans hq;clear hq;go_enter func141,ntmps141;go_wp2_with fail;go_ret;exact⟨rfl,(qC _ _).alloc (qA _) _⟩
theorem zRp(args:Array Value)(W:World):(callFunc 141 args).run prog W= .ok (.enter 141 args) W:=
 zAi func141 (by kernel_rfl) rfl args W
def zGo(b:Bool)(o:Nat):Nat:=if b then o+1 else o
theorem ShAt.gain_{w:World}{base g o:Nat}{cs:Array Value}{s:Shf}{v:Value}(h:ShAt w base g o cs s v)(b:Bool)(x:Int):ShAt (w.setCell ⟨g,zGo b o,none⟩ (.int .i64 x)) base g o (putAt cs o ((⟨if b then s.free else x,if b then x else s.used,s.made,s.opn⟩:Shf).cells v)) ⟨if b then s.free else x,if b then x else s.used,s.made,s.opn⟩ v:=by
 cases b
 ·exact h.free_ x
 ·exact h.used_ x
theorem ShAt.cg{w:World}{base g o:Nat}{cs:Array Value}{s:Shf}{v:Value}(h:ShAt w base g o cs s v)(b:Bool):w.cell? ⟨g,zGo b o,none⟩=some (.int .i64 (if b then s.used else s.free)):=by
 cases b
 ·exact h.c0
 ·exact h.c1
theorem zUb(base g o:Nat)(cs:Array Value)(s:Shf)(v:Value)(w:World)(id:Int)(b:Bool)(K:Int)(h:ShAt w base g o cs s v)(hs:s.ok K)(hK:K<=1000000)(hB:base<=w.heap.size):Calls prog 121 #[.pointer (some ⟨g,o,none⟩),.int .i64 id,.pointer (some ⟨g,zGo b o,none⟩)] w (ClPost base g o cs v w (zBf s id b)):=by
 obtain⟨wx,hwx⟩:=kB (w.alloc (.cells #[.int .i64 id] 3));have hbx:=uH hwx;have k0:Blk wx w.heap.size 3 #[.int .i64 id]:=by rw[hwx];exact Blk.new w 3 _
 have hx:=h.calm hbx;have q0:=k0.cell 0;have c2:=hx.c2;have c3:=hx.c3;have q0a:=q0;have c2a:=c2;have c3a:=c3;rw[hwx]at q0a c2a c3a;have hm0:=hs.made0;have hmK:=hs.madeK;have hll:=hs.len;obtain⟨HX,HBX,HWX,HS⟩:=uK hx hbx hwx hs;obtain⟨A,c,rfl,hnc⟩:=bE h.own;have HK0:=uT k0;have hne:g≠w.heap.size:=by have:=h.blk.lt;omega
 have hs0:=hs;clear hx h hbx hs k0 hwx hne;obtain⟨m,hm⟩:=kB s.opn.length;have HM:=uT hm;rw[<-hm]at c3 c3a hll hnc;clear hm;by_cases h1:id<1
 ·have HF:=uT (show zBf s id b=(s,6)by unfold zBf;rw[if_pos (.inl h1)]);have hd1:decide (id<1)=true:=decide_eq_true h1;go_enter func121,ntmps121;go_wp2_with fail;rw[<-HWX.s];go_quiet (fail);go_wp2_with fail;go_ret;rw[HF.s];exact zKd (HX.s.calm (below_drewN (qC _ _) nq)) (below_drewN HBX.s nq)
 have hd1:decide (id<1)=false:=decide_eq_false h1;have h1':1<=id:=by omega
 by_cases h2:s.made<id
 ·have HF:=uT (show zBf s id b=(s,6)by unfold zBf;rw[if_pos (.inr h2)]);clear h1;go_enter func121,ntmps121;go_wp2_with fail;rw[<-HWX.s];go_quiet (fail);go_wp2_with fail;go_ret;rw[HF.s];exact zKd (HX.s.calm (below_drewN (qC _ _) nq)) (below_drewN HBX.s nq)
 have hnr:¬ (id<1\/s.made<id):=by omega
 have h2':id<=s.made:=by omega
 have HIX:=uT (λW (hW:uR wx W)=>zWz 141 (.pointer (some ⟨w.heap.size,0,none⟩)) (λh=>h.id==id) A m c s.opn W.heap.size W HM.s.symm (by omega) (by have:=Reads.of_own (HX.s.calm hW).own;rwa[<-HM.s]at this) (qA _) zRp
  (λe W2 hW2=>zYo e w.heap.size id W2 ((HK0.s.below (hW.trans (hW2.mono hW.size)) HK0.s.lt).cell 0)))
 rcases zOd (λh:Hd=>h.id==id) s.opn 0 with⟨e1,e2⟩|⟨i,x,e0,e1,e2,e3,e4⟩
 ·have HF:=uT (show zBf s id b=(s,10)from yHo hnr e2);rw[e1]at HIX;clear h1 h2 e2 hnr e1;go_enter func121,ntmps121;go_wp2_with fail;rw[<-HWX.s];go_quiet (fail);go_wp2_with fail;refine(HIX.s _ (below_drewN (qC _ _) nq)).mono ?_;rintro _ w3 ⟨rfl,hb3⟩;have HB3:=uT (show uR wx w3 from(below_drewN (qC _ _) nq).trans hb3);clear hb3;go_wp2_with fail;go_ret;rw[HF.s];exact zKd (HX.s.calm HB3.s) (HBX.s.trans (HB3.s.mono HBX.s.size))
 ·have HF:=uT (shut_at (b:=b) hs0 hnr e3 e4 e2);rw[e1,Nat.zero_add]at HIX;rw[<-HM.s]at e0;have hx0:=HS.s.each x (qB e3);obtain⟨_,_,hx1,hx2,_,_⟩:=hx0;have htv:0<=(if b then s.used else s.free)/\(if b then s.used else s.free)<=1048576:=by
   have a1:=HS.s.all;have a2:=HS.s.used0;have a3:=HS.s.free0;have a4:0<=cW s.opn:=zEl λx hx=>by have:=HS.s.each x hx;omega
   split<;>omega
  obtain⟨tv,htv0⟩:=kB ((if b then s.used else s.free));rw[<-htv0]at htv;obtain⟨htv1,htv2⟩:=htv;have HTV:=uT htv0;obtain⟨gg,cap,hv,hbg,hglt⟩:=HX.s.own.form (by rw[<-HM.s];omega);injection hv with hA hn hcc;subst hA;clear hn hcc htv0;obtain⟨m',rfl⟩:∃m',m=m'+1:=⟨m-1,by omega⟩;obtain⟨E3,HLN⟩:=uI e3 (show(s.opn.take i++s.opn.drop (i+1)).length=m' by simp;have:=HM.s;omega);have him:i<=m':=by omega
  have hi0:(i:Int)<(m':Int)+1:=by omega
  have hi1:¬ ((i:Int)<0):=by omega
  have hmc:(m':Int)+1<=(c:Int):=by omega
  clear h1 h2 e2 hnr e1 e3 e4;go_enter func121,ntmps121;go_wp2_with fail;rw[<-HWX.s];go_quiet (fail);go_wp2_with fail;refine(HIX.s _ (below_drewN (qC _ _) nq)).mono ?_;rintro _ w3 ⟨rfl,hb3⟩;have HB3:=uT (show uR wx w3 from(below_drewN (qC _ _) nq).trans hb3);have hx3:=HX.s.calm HB3.s;have HX3:=uT hx3;have d3:=hx3.c3;rw[<-HM.s]at d3;have dg:=hx3.cg b;rw[<-HTV.s]at dg;have de:=zAr hx3.own (i*3+1) (by rw[zBl Hd.cells 3 Hd.cells_len _ i 1 (by omega),E3.s];rfl);have df:=hx3.fr (zGo b o);have hg3:¬ zGo b o=o+3:=by unfold zGo;split<;>omega
  have hg3':¬ o+3=zGo b o:=by omega
  clear hb3 c2 c3 q0 q0a c2a c3a hx3;go_wp2_with fail;refine bV 13 (by kernel_rfl) (by kernel_rfl) ?_;simp only[qX,jE,qZ,jL]
  repeat(go_big_quiet_step (fail))
  refine qF ?_;rintro _ ⟨nq2,rfl⟩;go_wp2_with fail;have hx4:=(HX3.s.calm (below_drewN (qC _ _) nq2)).gain_ b (tv+x.count);obtain⟨w4,hw4⟩:=kB ((w3.drewN nq2).setCell ⟨g,zGo b o,none⟩ (.int .i64 (tv+x.count)));rw[<-hw4]at hx4⊢;have hO4:Only (λk=>k=g) w3 w4:=by rw[hw4];exact Only.setCell (D:=λk=>k=g) ((Only.refl _ w3).drewN nq2) (p:=⟨g,zGo b o,none⟩) (λ_=>rfl) _
  obtain⟨HX4,HO4⟩:=uI hx4 hO4;have hdel:=zZv base (some ⟨gg,0,none⟩) m' c i s.opn w4 him (by omega) (by have:=hx4.own;rwa[<-HM.s]at this) HM.s.symm;have HDEL:=uT hdel;clear hx4 hO4 hdel hw4 d3 dg de df;refine HDEL.s.mono ?_;rintro _ w5 ⟨v5,rfl,hown5,hO5,hat5⟩;obtain⟨A5,c5,hv5,_⟩:=bE hown5;rw[HLN.s]at hv5;subst hv5;have hM5:=HX4.s.blk.only hO5 (by have:=HX4.s.ne;rw[<-HM.s]at this;exact this);have hfin:=ShAt.open_ HX4.s hM5 hown5;rw[zBm _ _ _ _ (by simp[Shf.cells])]at hfin;have u3:=hM5.at_ HX4.s.has 3 rfl;have f3:=hM5.frozen (o+3);obtain⟨HFIN,HO5,HAT5⟩:=uJ hfin hO5 hat5;clear hown5 hO5 hat5 hM5 hfin;go_wp2_with fail;go_ret;rw[HF.s];have hfin:=HFIN.s;rw[HTV.s]at hfin;refine⟨.slice A5 m' c5,rfl,?_,?_,λk hk=> .inl ?_⟩
  ·cases b
   ·exact hfin
   ·exact hfin
  ·have h1:Only (λk=>k=g\/Value.ownBlock (.slice (some ⟨gg,0,none⟩) s.opn.length c)=some k) w wx:=Only.of_below HBX.s λx hx hB=>by omega
   exact Only.setCell ((((h1.calm HB3.s).trans HO4.s λx _ h=> .inl h).trans HO5.s λx _ h=> .inr h)) (λ_=> .inl rfl) _
  ·exact HAT5.s k hk
theorem yEt{n:Int}(h:n<1\/1048576<n)(k l i:Int):gS ⟨k,n,l,i⟩=false:=by unfold gS;dsimp only;rcases h with h|h<;>simp<;>omega
theorem zDx{n:Int}(h1:1<=n)(h2:n<=1048576)(k l i:Int):gS ⟨k,n,l,i⟩=true:=by unfold gS;dsimp only;simp;omega
theorem ok_free{s:Shf}{K:Int}(h:s.ok K):s.free<=1048576/\s.used<=1048576/\0<=cW s.opn/\cW s.opn<=1048576:=by
 have a1:=h.all;have a2:=h.used0;have a3:=h.free0;have a4:0<=cW s.opn:=zEl λx hx=>by have:=h.each x hx;omega
 omega
theorem zEv{base g o:Nat}{cs:Array Value}{s:Shf}{v:Value}{w:World}{K:Int}(h:ShAt w base g o cs s v)(hs:s.ok K)(kind n life id:Int):∃(wx:World) (A:Option Addr) (c m:Nat),v= .slice A s.opn.length c/\wx.cell? ⟨w.heap.size,0,none⟩=some (.int .i64 kind)/\wx.cell? ⟨w.heap.size,1,none⟩=some (.int .i64 n)/\wx.cell? ⟨w.heap.size,2,none⟩=some (.int .i64 life)/\wx.cell? ⟨w.heap.size,3,none⟩=some (.int .i64 id)/\wx.cell? ⟨g,o,none⟩=some (.int .i64 s.free)/\wx.cell? ⟨g,o+1,none⟩=some (.int .i64 s.used)/\wx.cell? ⟨g,o+3,none⟩=some (.slice A m c)/\(w.alloc (.cells #[.int .i64 kind,.int .i64 n,.int .i64 life,.int .i64 id] 130)).cell? ⟨w.heap.size,0,none⟩=some (.int .i64 kind)/\(w.alloc (.cells #[.int .i64 kind,.int .i64 n,.int .i64 life,.int .i64 id] 130)).cell? ⟨w.heap.size,1,none⟩=some (.int .i64 n)/\(w.alloc (.cells #[.int .i64 kind,.int .i64 n,.int .i64 life,.int .i64 id] 130)).cell? ⟨w.heap.size,2,none⟩=some (.int .i64 life)/\(w.alloc (.cells #[.int .i64 kind,.int .i64 n,.int .i64 life,.int .i64 id] 130)).cell? ⟨w.heap.size,3,none⟩=some (.int .i64 id)/\(w.alloc (.cells #[.int .i64 kind,.int .i64 n,.int .i64 life,.int .i64 id] 130)).cell? ⟨g,o+3,none⟩=some (.slice A m c)/\0<=s.free/\0<=s.used/\s.free<=1048576/\s.used<=1048576/\0<=cW s.opn/\cW s.opn<=1048576/\m<=4/\m<=c/\ uS (ShAt wx base g o cs s (.slice A s.opn.length c))/\uS (uR w wx)/\uS (wx=w.alloc (.cells #[.int .i64 kind,.int .i64 n,.int .i64 life,.int .i64 id] 130))/\uS (s.ok K)/\uS (Blk wx w.heap.size 130 #[.int .i64 kind,.int .i64 n,.int .i64 life,.int .i64 id])/\uS (g≠w.heap.size)/\uS (m=s.opn.length):=by obtain⟨A,c,rfl,hnc⟩:=bE h.own;have hbx:uR w (w.alloc (.cells #[.int .i64 kind,.int .i64 n,.int .i64 life,.int .i64 id] 130)):=(qC _ _).alloc (qA _) _;have k0:=Blk.new w 130 #[.int .i64 kind,.int .i64 n,.int .i64 life,.int .i64 id];have hx:=h.calm hbx;obtain⟨hf1,hu1,hh0,hh1⟩:=ok_free hs;have hlt:=h.blk.lt;exact⟨_,A,c,_,rfl,k0.cell 0,k0.cell 1,k0.cell 2,k0.cell 3,hx.c0,hx.c1,hx.c3,k0.cell 0,k0.cell 1,k0.cell 2,k0.cell 3,hx.c3,hs.free0,hs.used0,hf1,hu1,hh0,hh1,hs.len,hnc,uT hx,uT hbx,uT rfl,uT hs,uT k0,uT (by omega),uT rfl⟩
theorem zJw(base g o:Nat)(cs:Array Value)(s:Shf)(v:Value)(w:World)(kind n life id K:Int)(h:ShAt w base g o cs s v)(hs:s.ok K)(hK:K<=1000000)(hB:base<=w.heap.size)(hkd:kind=1\/kind=2\/kind=3\/kind=6)(hc:n<1\/1048576<n):Calls prog 102 #[.pointer (some ⟨g,o,none⟩),(⟨kind,n,life,id⟩:Ordr).val] w (zDu base g o cs v w (s.order ⟨kind,n,life,id⟩)):=by
 unfold Ordr.val;dsimp only;obtain⟨wx,A,c,m,rfl,q0,q1,q2,q3,c0,c1,c3,q0a,q1a,q2a,q3a,c3a,hf0,hu0,hf1,hu1,hh0,hh1,hll,hnc,HX,HBX,HWX,HS,HK0,HNE,HM⟩:=zEv h hs kind n life id;clear h hs;have HF:=uT (show s.order ⟨kind,n,life,id⟩=(s,0,2)by unfold Shf.order;rw[yEt hc];rcases hkd with rfl|rfl|rfl|rfl<;>rfl);rcases hkd with rfl|rfl|rfl|rfl
 all_goals
  rcases hc with hc|hc
  all_goals
   first|(have hd1:decide (1<=n)=false:=decide_eq_false (by omega))|(have hc1:1<=n:=(by omega);have hd1:decide (1<=n)=true:=decide_eq_true (by omega);have hd2:decide (n<=1048576)=false:=decide_eq_false (by omega))
   go_enter func102,ntmps102;go_wp2_with fail;go_ret2;rw[HF.s,<-HWX.s];exact zBi HX.s HBX.s
theorem yDs(base g o:Nat)(cs:Array Value)(s:Shf)(v:Value)(w:World)(kind:Int)(n life id K:Int)(h:ShAt w base g o cs s v)(hs:s.ok K)(hK:K<=1000000)(hB:base<=w.heap.size)(hk:kind<1\/7<kind):Calls prog 102 #[.pointer (some ⟨g,o,none⟩),(⟨kind,n,life,id⟩:Ordr).val] w (zDu base g o cs v w (s.order ⟨kind,n,life,id⟩)):=by
 unfold Ordr.val;dsimp only;obtain⟨wx,A,c,m,rfl,q0,q1,q2,q3,c0,c1,c3,q0a,q1a,q2a,q3a,c3a,hf0,hu0,hf1,hu1,hh0,hh1,hll,hnc,HX,HBX,HWX,HS,HK0,HNE,HM⟩:=zEv h hs kind n life id;clear h hs;have HF:=uT (show s.order ⟨kind,n,life,id⟩=(s,0,3)by
  unfold Shf.order;have ha:dG kind=false:=by unfold dG;simp;omega
  rw[ha];simp only[Bool.false_and,Bool.false_eq_true,if_false];rw[if_neg (by omega),if_neg (by omega),if_neg (by omega),if_neg (by omega),if_neg (by omega),if_neg (by omega),if_neg (by omega)])
 have e1:(kind==1)=false:=by simp;omega
 have e2:(kind==2)=false:=by simp;omega
 have e3:(kind==3)=false:=by simp;omega
 have e4:(kind==4)=false:=by simp;omega
 have e5:(kind==5)=false:=by simp;omega
 have e6:(kind==6)=false:=by simp;omega
 have e7:(kind==7)=false:=by simp;omega
 clear hk;by_cases hc:n<1
 ·go_enter func102,ntmps102;go_wp2_with fail;go_ret2;rw[HF.s,<-HWX.s];exact zBi HX.s HBX.s
 ·have hc1:1<=n:=by omega
  clear hc;go_enter func102,ntmps102;go_wp2_with fail;go_ret2;rw[HF.s,<-HWX.s];exact zBi HX.s HBX.s
theorem order3(base g o:Nat)(cs:Array Value)(s:Shf)(v:Value)(w:World)(n life id K:Int)(h:ShAt w base g o cs s v)(hs:s.ok K)(hK:K<=1000000)(hB:base<=w.heap.size)(hc1:1<=n)(hc2:n<=1048576):Calls prog 102 #[.pointer (some ⟨g,o,none⟩),(⟨3,n,life,id⟩:Ordr).val] w (zDu base g o cs v w (s.order ⟨3,n,life,id⟩)):=by
 unfold Ordr.val;dsimp only;obtain⟨wx,A,c,m,rfl,q0,q1,q2,q3,c0,c1,c3,q0a,q1a,q2a,q3a,c3a,hf0,hu0,hf1,hu1,hh0,hh1,hll,hnc,HX,HBX,HWX,HS,HK0,HNE,HM⟩:=zEv h hs 3 n life id;clear h hs;have HF:=uT (show s.order ⟨3,n,life,id⟩=zGb s ⟨3,n,life,id⟩by unfold Shf.order zGb;rw[zDx hc1 hc2];simp[dG])
 have HH:=uT (zWk base g o cs s (.slice A s.opn.length c) wx ⟨3,n,life,id⟩ K HX.s HS.s hK hc1 hc2 (qN hB HBX.s.size));unfold Ordr.val at HH;dsimp only at HH;have hd1:decide (1<=n)=true:=decide_eq_true (by omega);have hd2:decide (n<=1048576)=true:=decide_eq_true (by omega);go_enter func102,ntmps102;go_wp2_with fail;rw[<-HWX.s];refine HH.s.mono ?_;intro e w' hp;have HP:=uT hp;obtain⟨v',he,hp2⟩:=hp;subst he;go_wp2_with fail;go_ret2;rw[HF.s];obtain⟨v2,he2,hs2,ho2,ha2⟩:=HP.s;refine⟨v2,he2,hs2,(Only.of_below HBX.s λx hx hB=>by omega).trans ho2 (λx _ h=>h),λk hk=> ?_⟩;rcases ha2 k hk with h1|h1
 ·exact .inl h1
 ·exact .inr (qN HBX.s.size h1)
theorem yBe(base g o:Nat)(cs:Array Value)(s:Shf)(v:Value)(w:World)(n life id K:Int)(h:ShAt w base g o cs s v)(hs:s.ok K)(hK:K<=1000000)(hB:base<=w.heap.size)(hc1:1<=n)(hc2:n<=1048576)(hov:1048576<s.free+cW s.opn+s.used+n):Calls prog 102 #[.pointer (some ⟨g,o,none⟩),(⟨1,n,life,id⟩:Ordr).val] w (zDu base g o cs v w (s.order ⟨1,n,life,id⟩)):=by
 unfold Ordr.val;dsimp only;obtain⟨wx,A,c,m,rfl,q0,q1,q2,q3,c0,c1,c3,q0a,q1a,q2a,q3a,c3a,hf0,hu0,hf1,hu1,hh0,hh1,hll,hnc,HX,HBX,HWX,HS,HK0,HNE,HM⟩:=zEv h hs 1 n life id;clear h hs;have HF:=uT (show s.order ⟨1,n,life,id⟩=(s,0,12)by unfold Shf.order;rw[zDx hc1 hc2];simp[dG,hov])
 have HH:=uT (λW (hW:uR wx W)=>zIb base g o cs s (.slice A s.opn.length c) W (HX.s.calm hW) HS.s.len λx hx=>by have:=HS.s.each x hx;omega);have cc0:=λn:Ext wx=>n.cell c0
 have cc1:=λn:Ext wx=>n.cell c1
 have cq1:=λn:Ext wx=>n.cell q1
 have s1:IntKind.i64.wrap (s.free+cW s.opn)=s.free+cW s.opn:=IntWalk.i64_in _ (by omega);have s2:IntKind.i64.wrap (s.free+cW s.opn+s.used)=s.free+cW s.opn+s.used:=IntWalk.i64_in _ (by omega);have s3:IntKind.i64.wrap (s.free+cW s.opn+s.used+n)=s.free+cW s.opn+s.used+n:=IntWalk.i64_in _ (by omega);have HS123:=uT (And.intro s1 (And.intro s2 s3));clear s1 s2 s3;have hd1:decide (1<=n)=true:=decide_eq_true (by omega);have hd2:decide (n<=1048576)=true:=decide_eq_true (by omega);go_enter func102,ntmps102;go_wp2_with fail;rw[<-HWX.s];obtain⟨s1,s2,s3⟩:=HS123.s;refine dR (by kernel_rfl) (by kernel_rfl) ?_
 repeat(go_big_quiet_step ((go_at_call 49;exact fT (HH.s _ (Ext.h _)))))
 refine qF ?_;rintro _ ⟨nq,rfl⟩;clear s1 s2 s3;go_wp2_with fail;go_ret2;rw[HF.s];exact zBi (HX.s.calm nq.h) (HBX.s.trans (nq.h.mono HBX.s.size))
theorem yHc(base g o:Nat)(cs:Array Value)(s:Shf)(v:Value)(w:World)(n life id K:Int)(h:ShAt w base g o cs s v)(hs:s.ok K)(hK:K<=1000000)(hB:base<=w.heap.size)(hc1:1<=n)(hc2:n<=1048576)(hov:s.free+cW s.opn+s.used+n<=1048576):Calls prog 102 #[.pointer (some ⟨g,o,none⟩),(⟨1,n,life,id⟩:Ordr).val] w (zDu base g o cs v w (s.order ⟨1,n,life,id⟩)):=by
 unfold Ordr.val;dsimp only;obtain⟨wx,A,c,m,rfl,q0,q1,q2,q3,c0,c1,c3,q0a,q1a,q2a,q3a,c3a,hf0,hu0,hf1,hu1,hh0,hh1,hll,hnc,HX,HBX,HWX,HS,HK0,HNE,HM⟩:=zEv h hs 1 n life id;clear h hs;have HF:=uT (show s.order ⟨1,n,life,id⟩=(⟨s.free+n,s.used,s.made,s.opn⟩,0,0)by unfold Shf.order;rw[zDx hc1 hc2,if_neg (by simp[dG]),if_pos rfl,if_neg (by dsimp only;omega)])
 have HH:=uT (λW (hW:uR wx W)=>zIb base g o cs s (.slice A s.opn.length c) W (HX.s.calm hW) HS.s.len λx hx=>by have:=HS.s.each x hx;omega);have cc0:=λn:Ext wx=>n.cell c0
 have cc1:=λn:Ext wx=>n.cell c1
 have cq1:=λn:Ext wx=>n.cell q1
 have s1:IntKind.i64.wrap (s.free+cW s.opn)=s.free+cW s.opn:=IntWalk.i64_in _ (by omega);have s2:IntKind.i64.wrap (s.free+cW s.opn+s.used)=s.free+cW s.opn+s.used:=IntWalk.i64_in _ (by omega);have s3:IntKind.i64.wrap (s.free+cW s.opn+s.used+n)=s.free+cW s.opn+s.used+n:=IntWalk.i64_in _ (by omega);have HS123:=uT (And.intro s1 (And.intro s2 s3));clear s1 s2 s3;have hd1:decide (1<=n)=true:=decide_eq_true (by omega);have hd2:decide (n<=1048576)=true:=decide_eq_true (by omega);go_enter func102,ntmps102;go_wp2_with fail;rw[<-HWX.s];obtain⟨s1,s2,s3⟩:=HS123.s;refine dR (by kernel_rfl) (by kernel_rfl) ?_
 repeat(go_big_quiet_step ((go_at_call 49;exact fT (HH.s _ (Ext.h _)))))
 refine qF ?_;rintro _ ⟨nq,rfl⟩;clear s1 s2 s3;go_wp2_with fail;have hx2:=HX.s.calm nq.h;have d0:=hx2.c0;have f0:=hx2.fr o;have k2:=HK0.s.below nq.h HK0.s.lt;have r1:=k2.cell 1;have HX2:=uT hx2;clear hx2 k2;refine bV 9 (by kernel_rfl) (by kernel_rfl) ?_;simp only[qX,jE,qZ,jL]
 repeat(go_big_quiet_step (fail))
 refine qF ?_;rintro _ ⟨nq2,rfl⟩;go_wp2_with fail;go_ret2;rw[HF.s];refine⟨.slice A s.opn.length c,rfl,(HX2.s.calm (below_drewN (qC _ _) nq2)).free_ (s.free+n),?_,λk hk=> .inl hk⟩;have h1:Only (λk=>k=g\/Value.ownBlock (.slice A s.opn.length c)=some k) w wx:=Only.of_below HBX.s λx hx hB=>by omega
 exact Only.setCell (((h1.calm nq.h).drewN nq2)) (λ_=> .inl rfl) _
theorem zRn(base g o:Nat)(cs:Array Value)(s:Shf)(v:Value)(w:World)(kind n life id K:Int)(h:ShAt w base g o cs s v)(hs:s.ok K)(hK:K<=1000000)(hB:base<=w.heap.size)(hc1:1<=n)(hc2:n<=1048576)(hls:kind=2/\s.free<n\/kind=6/\s.used<n):Calls prog 102 #[.pointer (some ⟨g,o,none⟩),(⟨kind,n,life,id⟩:Ordr).val] w (zDu base g o cs v w (s.order ⟨kind,n,life,id⟩)):=by
 unfold Ordr.val;dsimp only;obtain⟨wx,A,c,m,rfl,q0,q1,q2,q3,c0,c1,c3,q0a,q1a,q2a,q3a,c3a,hf0,hu0,hf1,hu1,hh0,hh1,hll,hnc,HX,HBX,HWX,HS,HK0,HNE,HM⟩:=zEv h hs kind n life id;clear h hs;have HF:=uT (show s.order ⟨kind,n,life,id⟩=(s,0,9)by unfold Shf.order;rw[zDx hc1 hc2];rcases hls with⟨rfl,h⟩|⟨rfl,h⟩<;>simp[dG,h])
 rcases hls with⟨rfl,hls⟩|⟨rfl,hls⟩
 all_goals
  first|have HSH:=uT (λN=>zJy (.pointer (some ⟨g,o,none⟩)) g (o) (o+1) s.free n (wx.drewN N) c0 hls)|have HSH:=uT (λN=>zJy (.pointer (some ⟨g,o,none⟩)) g (o+1) (o) s.used n (wx.drewN N) c1 hls)
  have hd1:decide (1<=n)=true:=decide_eq_true (by omega);have hd2:decide (n<=1048576)=true:=decide_eq_true (by omega);go_enter func102,ntmps102;go_wp2_with fail;rw[<-HWX.s];refine gW [] [0,1,2,3,4,5,6,7,8] [] [] 9 [10,11] (by kernel_rfl) (by kernel_rfl) (by intro c a d v w h;cases d<;>exact h) ?_;simp only[bB,qJ,qO,qD,qE];refine qF ?_
  repeat(go_big_quiet_step (fail))
  refine qF (qF ?_);rintro _ ⟨nq,rfl⟩;simp only[fJ];go_wp2_with fail;refine(HSH.s nq).mono ?_;rintro _ _ ⟨rfl,rfl⟩;go_wp2_with fail;go_ret2;rw[HF.s];exact zBi (HX.s.calm (below_drewN (qC _ _) nq)) (below_drewN HBX.s nq)
theorem zOw(base g o:Nat)(cs:Array Value)(s:Shf)(v:Value)(w:World)(kind n life id K:Int)(h:ShAt w base g o cs s v)(hs:s.ok K)(hK:K<=1000000)(hB:base<=w.heap.size)(hc1:1<=n)(hc2:n<=1048576)(hls:kind=2/\n<=s.free\/kind=6/\n<=s.used):Calls prog 102 #[.pointer (some ⟨g,o,none⟩),(⟨kind,n,life,id⟩:Ordr).val] w (zDu base g o cs v w (s.order ⟨kind,n,life,id⟩)):=by
 unfold Ordr.val;dsimp only;obtain⟨wx,A,c,m,rfl,q0,q1,q2,q3,c0,c1,c3,q0a,q1a,q2a,q3a,c3a,hf0,hu0,hf1,hu1,hh0,hh1,hll,hnc,HX,HBX,HWX,HS,HK0,HNE,HM⟩:=zEv h hs kind n life id;clear h hs;rcases hls with⟨rfl,hls⟩|⟨rfl,hls⟩
 all_goals
  first|(have h5:¬ s.free<n:=(by omega);have HF:=uT (show s.order ⟨2,n,life,id⟩=(⟨s.free-n,s.used+n,s.made,s.opn⟩,0,0)by unfold Shf.order;rw[zDx hc1 hc2];simp[dG,h5]))|(have h5:¬ s.used<n:=(by omega);have HF:=uT (show s.order ⟨6,n,life,id⟩=(⟨s.free+n,s.used-n,s.made,s.opn⟩,0,0)by unfold Shf.order;rw[zDx hc1 hc2];simp[dG,h5]))
  first|(have HSH:=uT λN=>zMn (.pointer (some ⟨g,o,none⟩)) g (o) (o+1) s.free s.used n (wx.drewN N) c0 c1 (HX.s.fr _) (HX.s.fr _) (by omega) hls (by omega) (by omega) (by omega) (by omega))|(have HSH:=uT λN=>zMn (.pointer (some ⟨g,o,none⟩)) g (o+1) (o) s.used s.free n (wx.drewN N) c1 c0 (HX.s.fr _) (HX.s.fr _) (by omega) hls (by omega) (by omega) (by omega) (by omega))
  have hd1:decide (1<=n)=true:=decide_eq_true (by omega);have hd2:decide (n<=1048576)=true:=decide_eq_true (by omega);go_enter func102,ntmps102;go_wp2_with fail;rw[<-HWX.s];refine gW [] [0,1,2,3,4,5,6,7,8] [] [] 9 [10,11] (by kernel_rfl) (by kernel_rfl) (by intro c a d v w h;cases d<;>exact h) ?_;simp only[bB,qJ,qO,qD,qE];refine qF ?_
  repeat(go_big_quiet_step (fail))
  refine qF (qF ?_);rintro _ ⟨nq,rfl⟩;simp only[fJ];go_wp2_with fail;refine(HSH.s nq).mono ?_;rintro _ w4 ⟨rfl,hw4⟩
  first|(have hx4:=(ShAt.free_ (HX.s.calm (below_drewN (qC _ _) nq)) (s.free-n)).used_ (s.used+n);rw[zBm _ _ _ _ (by simp[Shf.cells])]at hx4;have hx5:ShAt w4 base g o _ _ _:=hw4▸hx4)|(have hx4:=(ShAt.used_ (HX.s.calm (below_drewN (qC _ _) nq)) (s.used-n)).free_ (s.free+n);rw[zBm _ _ _ _ (by simp[Shf.cells])]at hx4;have hx5:ShAt w4 base g o _ _ _:=hw4▸hx4)
  have hO4:Only (λk=>k=g) wx w4:=by rw[<-hw4];exact Only.setCell (D:=λk=>k=g) (Only.setCell (D:=λk=>k=g) ((Only.refl _ wx).drewN nq) (λ_=>rfl) _) (λ_=>rfl) _
  obtain⟨HX4,HO4⟩:=uI hx5 hO4;clear hx4 hx5 hO4 hw4;go_wp2_with fail;go_ret2;rw[HF.s];refine⟨.slice A s.opn.length c,rfl,HX4.s,?_,λk hk=> .inl hk⟩;have h1:Only (λk=>k=g\/Value.ownBlock (.slice A s.opn.length c)=some k) w wx:=Only.of_below HBX.s λx hx hB=>by omega
  exact h1.trans HO4.s (λx _ h=> .inl h)
theorem zHp(base g o:Nat)(cs:Array Value)(s:Shf)(v:Value)(w:World)(kind:Int)(b:Bool)(n life id K:Int)(h:ShAt w base g o cs s v)(hs:s.ok K)(hK:K<=1000000)(hB:base<=w.heap.size)(hkd:kind=4/\b=true\/kind=5/\b=false):Calls prog 102 #[.pointer (some ⟨g,o,none⟩),(⟨kind,n,life,id⟩:Ordr).val] w (zDu base g o cs v w (s.order ⟨kind,n,life,id⟩)):=by
 unfold Ordr.val;dsimp only;obtain⟨wx,A,c,m,rfl,q0,q1,q2,q3,c0,c1,c3,q0a,q1a,q2a,q3a,c3a,hf0,hu0,hf1,hu1,hh0,hh1,hll,hnc,HX,HBX,HWX,HS,HK0,HNE,HM⟩:=zEv h hs kind n life id;clear h hs;have HF:=uT (show s.order ⟨kind,n,life,id⟩=((zBf s id b).1,0,(zBf s id b).2)by unfold Shf.order;rcases hkd with⟨rfl,rfl⟩|⟨rfl,rfl⟩<;>simp[dG])
 have HC:=uT (λN=>zUb base g o cs s (.slice A s.opn.length c) (wx.drewN N) id b K (HX.s.calm (below_drewN (qC _ _) N)) HS.s hK (qN hB HBX.s.size));rcases hkd with⟨rfl,rfl⟩|⟨rfl,rfl⟩
 all_goals by_cases hc:n<1
 all_goals
  first|(have hd1:decide (1<=n)=false:=decide_eq_false (by omega))|(have hd1:decide (1<=n)=true:=decide_eq_true (by omega))
  go_enter func102,ntmps102;go_wp2_with fail;rw[<-HWX.s];refine gW [] [0,1,2,3,4,5] [] [] 6 [7,8] (by kernel_rfl) (by kernel_rfl) (by intro c a d v w h;cases d<;>exact h) ?_;simp only[bB,qJ,qO,qD,qE];refine qF ?_
  repeat(go_big_quiet_step (fail))
  refine qF (qF ?_);rintro _ ⟨nq,rfl⟩;simp only[fJ];go_wp2_with fail;refine(HC.s nq).mono ?_;intro e w' hp;have HP:=uT hp;obtain⟨v',he,hp2⟩:=hp;subst he;clear hp2;go_wp2_with fail;go_ret2;rw[HF.s];obtain⟨v2,he2,hs2,ho2,ha2⟩:=HP.s;refine⟨v2,rfl,hs2,?_,λk hk=> ?_⟩
  ·have h1:Only (λk=>k=g\/Value.ownBlock (.slice A s.opn.length c)=some k) w wx:=Only.of_below HBX.s λx hx hB=>by omega
   exact(h1.drewN nq).trans ho2 (λx _ h=>h)
  ·rcases ha2 k hk with h1|h1
   ·exact .inl h1
   ·exact .inr (qN HBX.s.size h1)
theorem zPj(x:Hd)(w:World):Calls prog 122 #[.agg #[.int .i64 x.id,.int .i64 x.count,.int .i64 x.life]] w λe w'=>e= .returned (.bool (x.life==0))/\uR w w':=by go_enter func122,ntmps122;go_wp2_with fail;go_ret;exact⟨rfl,(qC _ _).alloc (qA _) _⟩
theorem zSy(args:Array Value)(W:World):(callFunc 122 args).run prog W= .ok (.enter 122 args) W:=
 zAi func122 (by kernel_rfl) rfl args W
theorem zNg(a b:List Hd):fM (a++b)=fM a+fM b:=by
 induction a with
 |nil=>simp[fM]
 |cons h l ih=>simp[fM,ih];omega
theorem yDo(l:List Hd)(k:Nat)(h:Hd)(hk:l[k]? =some h):fM (l.take (k+1))=fM (l.take k)+(if h.life=0 then h.count else 0):=by rw[dB l k h hk,zNg];simp[fM]
theorem zMi{l:List Hd}(h:∀x∈l,0<=x.count)(k:Nat):0<=fM (l.take k)/\fM (l.take k)<=cW l:=by
 have h1:0<=fM (l.take k):=zJg λx hx=>h x (List.mem_of_mem_take hx)
 have h2:fM l=fM (l.take k)+fM (l.drop k):=by rw[<-zNg,jW]
 have h3:0<=fM (l.drop k):=zJg λx hx=>h x (List.mem_of_mem_drop hx)
 have h4:=zOr l;have h5:0<=cW (stays l):=zEl λx hx=>h x (List.mem_filter.1 hx).1
 omega
def zBv(l:List Hd)(k:Nat):List Hd:=(l.take k).map aged++l.drop k
theorem yBc(l:List Hd):zBv l 0=l:=by simp[zBv]
theorem yDp(l:List Hd):zBv l l.length=l.map aged:=by simp[zBv]
theorem zLz(l:List Hd)(k:Nat):(zBv l k).length=l.length:=by unfold zBv;rw[qM,qQ,<-qM,jW]
theorem yEi(l:List Hd)(k:Nat)(hk:k<l.length):(zBv l k)[k]? =l[k]? :=by unfold zBv;rw[uG (by simp;omega),qQ,qY,Nat.min_eq_left (by omega),Nat.sub_self,List.getElem?_drop];rfl
theorem yFe(l:List Hd)(k:Nat)(x:Hd)(hx:l[k]? =some x):(zBv l k).set k (aged x)=zBv l (k+1):=by have hk:=(qK.1 hx).1;unfold zBv;rw[List.set_append_right _ _ (by simp;omega),qQ,qY,Nat.min_eq_left (by omega),Nat.sub_self,cZ l k x hx,List.set_cons_zero,dB l k x hx,jA];simp
theorem own_ages{w:World}{base g n c k:Nat}{l:List Hd}{x:Hd}(h:w.ownsRow base 161 3 (.slice (some ⟨g,0,none⟩) n c) n (l.flatMap Hd.cells))(hx:l[k]? =some x):(w.setCell ⟨g,k*3+2,none⟩ (.int .i64 (x.life-1))).ownsRow base 161 3 (.slice (some ⟨g,0,none⟩) n c) n ((l.set k (aged x)).flatMap Hd.cells):=by have h1:=(h.stored (k*3+2) (.int .i64 (x.life-1))).1;have e:=zEh Hd.cells_len l k 2 x (aged x) (.int .i64 (x.life-1)) hx (by omega) rfl;rw[e]at h1;exact h1
theorem ShAt.row_{w w':World}{base g o:Nat}{cs:Array Value}{s:Shf}{v:Value}{l:List Hd}(h:ShAt w base g o cs s v)(hown:w'.ownsRow base 161 3 v l.length (l.flatMap Hd.cells))(hb:Blk w' g 84 cs):ShAt w' base g o cs {s with opn:=l} v:=
 ⟨hb,h.has,hown⟩
theorem order7(base g o:Nat)(cs:Array Value)(s:Shf)(v:Value)(w:World)(n life id K:Int)(h:ShAt w base g o cs s v)(hs:s.ok K)(hK:K<=1000000)(hB:base<=w.heap.size):Calls prog 102 #[.pointer (some ⟨g,o,none⟩),(⟨7,n,life,id⟩:Ordr).val] w (zDu base g o cs v w (s.order ⟨7,n,life,id⟩)):=by
 unfold Ordr.val;dsimp only;obtain⟨wx,A,c,m,rfl,q0,q1,q2,q3,c0,c1,c3,q0a,q1a,q2a,q3a,c3a,hf0,hu0,hf1,hu1,hh0,hh1,hll,hnc,HX,HBX,HWX,HS,HK0,HNE,HM⟩:=zEv h hs 7 n life id;clear h hs;have HF:=uT (show s.order ⟨7,n,life,id⟩=(⟨s.free+fM (s.opn.map aged),s.used,s.made,stays (s.opn.map aged)⟩,0,0)by unfold Shf.order;simp[dG])
 have hm9:m<=9223372036854775807:=by omega
 by_cases hc:n<1
 all_goals
  first|(have hd1:decide (1<=n)=false:=decide_eq_false (by omega))|(have hd1:decide (1<=n)=true:=decide_eq_true (by omega))
  clear hc;go_enter func102,ntmps102;go_wp2_with fail;rw[<-HWX.s];clear q0 q1 q2 q3 q0a q1a q2a q3a c3a c0 c1 c3
  go_loopw [113] (λi wr=>∃k:Nat,k<=m/\i= .int .i64 k/\uS (ShAt wr base g o cs {s with opn:=zBv s.opn k} (.slice A s.opn.length c))/\uS (Only (λk=>Value.ownBlock (.slice A s.opn.length c)=some k) wx wr)) (λi _=>m-(intOf i).toNat)
  case atStart=>exact⟨0,qL _,rfl,by rw[yBc];exact HX,Only.refl _ _⟩
  case round=>
   obtain⟨k,hk,rfl,HXR,HOR⟩:=hrel;by_cases hlt:k<m
   ·have hkl:k<s.opn.length:=by rw[<-HM.s];exact hlt
    obtain⟨x,hx⟩:∃x,s.opn[k]? =some x:=⟨_,qI hkl⟩;have c3r:=HXR.s.c3;rw[<-HM.s]at c3r;have hown:=HXR.s.own;obtain⟨gg,cap,hv,hbg,hglt⟩:=hown.form (by show 0<(zBv s.opn k).length;rw[zLz];omega);injection hv with hA hn hcc;subst hA;clear hn hcc;have hget:(zBv s.opn k)[k]? =some x:=by rw[yEi _ _ hkl];exact hx
    have hlen:(zBv s.opn k).length=s.opn.length:=zLz _ _;dsimp only at hown;rw[hlen]at hown;have de:=zAr hown (k*3+2) (by rw[zBl Hd.cells 3 Hd.cells_len _ k 2 (by omega),hget];rfl);have df:wr.frozen? ⟨gg,k*3+2,none⟩=false:=by have:=(zDm hown (k*3+2) (by have:=(fH hown).2.1;omega)).2;exact this
    have hag:=own_ages hown hget;rw[yFe _ _ _ hx]at hag;have hM:=HXR.s.blk;have hne:g≠gg:=λe=>HXR.s.ne (by rw[e];rfl)
    obtain⟨HX2,HO2⟩:=uI (ShAt.row_ (l:=zBv s.opn (k+1)) HXR.s (by rw[zLz];exact hag) (hM.far (p:=⟨gg,k*3+2,none⟩) hne _)) (HOR.s.setCell (p:=⟨gg,k*3+2,none⟩) (λ_=>rfl) (.int .i64 (x.life-1)));have hxl:=HS.s.each x (qB hx);obtain⟨_,_,_,_,hx1,hx2⟩:=hxl;have hki:(k:Int)<(m:Int):=by omega
    clear hown hget hlen hag hM hx;go_wp2_with fail;go_roundw
    case rel=>exact⟨k+1,by omega,by go_num,HX2,HO2⟩
    case measure=>simp[intOf];omega
   ·obtain rfl:k=m:=by omega
    have HXA:=uT (show ShAt wr base g o cs {s with opn:=s.opn.map aged} (.slice A s.opn.length c)by
     have h:=HXR.s
     rwa[HM.s,yDp]at h)
    have c3r:=HXA.s.c3;rw[<-HM.s]at c3r;have HOA:=uT HOR.s;clear HXR HOR hlt;go_wp2_with fail;obtain⟨wa,hwa⟩:=kB wr;rw[<-hwa]at HXA HOA c3r⊢;clear hwa
    go_loopw [133] (λi wr=>∃(j:Nat) (cs':Array Value),j<=k/\i= .int .i64 j/\uS (cs'=putAt cs o ((⟨s.free+fM ((s.opn.map aged).take j),s.used,s.made,s.opn.map aged⟩:Shf).cells (.slice A s.opn.length c)))/\uS (ShAt wr base g o cs' ⟨s.free+fM ((s.opn.map aged).take j),s.used,s.made,s.opn.map aged⟩ (.slice A s.opn.length c))/\uS (Only (λx=>x=g) wa wr)) (λi _=>k-(intOf i).toNat)
    case atStart=>
     refine⟨0,cs,qL _,rfl,?_,?_,Only.refl _ _⟩
     ·have h:=HXA.s.has;have e:s.free+fM ((s.opn.map aged).take 0)=s.free:=by simp[fM]
      show cs=_;rw[e,zFw cs o _ h]
     ·have e:s.free+fM ((s.opn.map aged).take 0)=s.free:=by simp[fM]
      show ShAt _ _ _ _ _ _ _;rw[e];exact HXA.s
    case round=>
     obtain⟨j,cs',hj,rfl,HCS,HXR,HOR⟩:=hrel;have hlA:(s.opn.map aged).length=s.opn.length:=qQ ..;have hcnt:∀x∈s.opn.map aged,0<=x.count:=λx hx=>by obtain⟨y,hy,rfl⟩:=jC.1 hx;have:=HS.s.each y hy;show 0<=y.count;omega
     obtain⟨hb0,hb1⟩:=zMi hcnt j;rw[zLl]at hb1;have hall:=HS.s.all;by_cases hlt2:j<k
     ·have hjl:j<(s.opn.map aged).length:=by rw[hlA,<-HM.s];exact hlt2
      obtain⟨x,hx⟩:∃x,(s.opn.map aged)[j]? =some x:=⟨_,qI hjl⟩;have hown:=HXR.s.own;dsimp only at hown;rw[hlA]at hown;obtain⟨gg,cap,hv,hbg,hglt⟩:=hown.form (by rw[<-HM.s];omega);injection hv with hA hn hcc;subst hA;clear hn hcc;have e0:=zAr hown (j*3+0) (by rw[zBl Hd.cells 3 Hd.cells_len _ j 0 (by omega),hx];rfl);have e1:=zAr hown (j*3+1) (by rw[zBl Hd.cells 3 Hd.cells_len _ j 1 (by omega),hx];rfl);have e2:=zAr hown (j*3+2) (by rw[zBl Hd.cells 3 Hd.cells_len _ j 2 (by omega),hx];rfl);simp only[Nat.add_zero]at e0;have HOV:=uT (yDo _ j x hx);have hxc:=hcnt x (qB hx);have hb2:=zMi hcnt (j+1);rw[zLl]at hb2;have hxm:x.count<=1048576:=by obtain⟨y,hy,rfl⟩:=jC.1 (qB hx);have:=HS.s.each y hy;show y.count<=1048576;omega
      obtain⟨q,hq⟩:=kB (fM ((s.opn.map aged).take j));rw[<-hq]at HXR HCS hb0 hb1 HOV;have hjk:(j:Int)<(k:Int):=by omega
      obtain⟨HCL,HXF,HXG⟩:=uJ (λW=>zPj x W) (show x.life=0->fM ((s.opn.map aged).take (j+1))=q+x.count from λh=>by rw[HOV.s,if_pos h]) (show x.life≠0->fM ((s.opn.map aged).take (j+1))=q from λh=>by rw[HOV.s,if_neg h];omega);obtain⟨xi,xc,xl⟩:=x;dsimp only at e0 e1 e2 hxc hxm HCL HXF HXG;clear hown hx hq HOV hb2 hcnt hlA;by_cases hz:xl=0
      ·have hzb:(xl==0)=true:=by simp[hz]
       rw[hzb]at HCL;have HNX:=uT (HXF.s hz);clear hz hzb HXF HXG;go_wp2_with fail;refine(HCL.s _).mono ?_;rintro _ w3 ⟨rfl,hb3⟩;have hwb:uR wr (wr.alloc (.cells #[.int .i64 xi,.int .i64 xc,.int .i64 xl] 161)):=(qC _ _).alloc (qA _) _;have hb3':uR wr w3:=hwb.trans (hb3.mono hwb.size);have kx:=Blk.below (Blk.new wr 161 #[.int .i64 xi,.int .i64 xc,.int .i64 xl]) hb3 (by simp);have r1:=kx.cell 1;have hx3:=HXR.s.calm hb3';have d0:=hx3.c0;have f0:=hx3.fr o;obtain⟨HX3,HB3⟩:=uI hx3 hb3';clear hb3 hb3' kx hx3 hwb e0 e1 e2;dsimp only at d0;go_wp2_with fail;refine bV 9 (by kernel_rfl) (by kernel_rfl) ?_;simp only[qX,jE,qZ,jL]
       repeat(go_big_quiet_step (fail))
       refine qF ?_;rintro _ ⟨nq2,rfl⟩;go_wp2_with fail;have hx4:=(HX3.s.calm (below_drewN (qC _ _) nq2)).free_ (s.free+q+xc);obtain⟨HX4,HO4⟩:=uI hx4 (Only.setCell (D:=λx=>x=g) ((HOR.s.calm HB3.s).drewN nq2) (p:=⟨g,o,none⟩) (λ_=>rfl) (.int .i64 (s.free+q+xc)));clear hx4;go_roundw
       case rel=>
        refine⟨j+1,putAt cs o ((⟨s.free+(q+xc),s.used,s.made,s.opn.map aged⟩:Shf).cells (.slice (some ⟨gg,0,none⟩) s.opn.length c)),by omega,by go_num,?_,?_,HO4⟩
        ·show _=putAt cs o _;rw[HNX.s]
        ·have h:=HX4.s;show ShAt _ _ _ _ _ _ _;rw[HNX.s];rw[HCS.s,zBm _ _ _ _ (by simp[Shf.cells])]at h;rw[<-Int.add_assoc];exact h
       case measure=>simp[intOf];omega
      ·have hzb:(xl==0)=false:=by simpa using hz
       rw[hzb]at HCL;have HNX:=uT (HXG.s hz);clear hz hzb HXF HXG;go_wp2_with fail;refine(HCL.s _).mono ?_;rintro _ w3 ⟨rfl,hb3⟩;have hwb:uR wr (wr.alloc (.cells #[.int .i64 xi,.int .i64 xc,.int .i64 xl] 161)):=(qC _ _).alloc (qA _) _;have hb3':uR wr w3:=hwb.trans (hb3.mono hwb.size);obtain⟨HX3,HO3⟩:=uI (HXR.s.calm hb3') (HOR.s.calm hb3');clear hb3 hb3' hwb e0 e1 e2;go_wp2_with fail;go_roundw
       case rel=>
        refine⟨j+1,cs',by omega,by go_num,?_,?_,HO3⟩
        ·show _=putAt cs o _;rw[HNX.s];exact HCS.s
        ·show ShAt _ _ _ _ _ _ _;rw[HNX.s];exact HX3.s
       case measure=>simp[intOf];omega
     ·obtain rfl:j=k:=by omega
      have hAll:(s.opn.map aged).take j=s.opn.map aged:=qS (by rw[hlA,<-HM.s];exact qA _);have HX5:=uT (show ShAt wr base g o cs' ⟨s.free+fM (s.opn.map aged),s.used,s.made,s.opn.map aged⟩ (.slice A s.opn.length c)by
       have h:=HXR.s
       rwa[hAll]at h)
      have hcs:cs'=putAt cs o ((⟨s.free+fM (s.opn.map aged),s.used,s.made,s.opn.map aged⟩:Shf).cells (.slice A s.opn.length c)):=by
       have h:=HCS.s
       rwa[hAll]at h
      have HCS5:=uT hcs;have c3z:=HX5.s.c3;rw[<-HM.s]at c3z;have HDEL:=uT (zWq 122 (λh=>h.life==0) base A j c (s.opn.map aged) wr (by omega) (by have:=HX5.s.own;dsimp only at this;rwa[hlA,<-HM.s]at this) (by rw[hlA,<-HM.s]) (by have h0:=HBX.s.size;have h1:=HOA.s.size;have h2:=HOR.s.size;omega) zSy λe W=>zPj e W)
      clear HXR HCS hAll hcs hcnt hlA hall hb0 hb1 hlt2;go_wp2_with fail;refine HDEL.s.mono ?_;rintro _ w5 ⟨v5,rfl,hown5,hO5,hat5⟩;obtain⟨A5,c5,hv5,_⟩:=bE hown5;obtain⟨n5,hn5⟩:=kB (((s.opn.map aged).filter λe=> !(e.life==0)).length);rw[<-hn5]at hv5;subst hv5;have hM5:=HX5.s.blk.only hO5 (by have:=HX5.s.ne;rw[<-HM.s]at this;exact this);have hfin:=ShAt.open_ (l:=stays (s.opn.map aged)) HX5.s hM5 hown5;rw[HCS5.s,zBm _ _ _ _ (by simp[Shf.cells])]at hfin;have u3:=hM5.at_ HX5.s.has 3 rfl;have f3:=hM5.frozen (o+3);obtain⟨HFIN,HO5,HAT5⟩:=uJ hfin hO5 hat5;clear hown5 hO5 hat5 hM5 hfin hn5;go_wp2_with fail;go_ret2;rw[HF.s];have hob:∀x,(Value.slice A j c).ownBlock=some x->(Value.slice A s.opn.length c).ownBlock=some x:=by rw[HM.s];exact λx h=>h
      refine⟨.slice A5 n5 c5,rfl,HFIN.s,?_,λk hk=> .inl (hob k (HAT5.s k hk))⟩;have h1:Only (λk=>k=g\/Value.ownBlock (.slice A s.opn.length c)=some k) w wx:=Only.of_below HBX.s λx hx hB=>by omega
      have h2:=(((h1.trans HOA.s λx _ h=> .inr h).trans HOR.s λx _ h=> .inl h).trans HO5.s λx _ h=> .inr (hob x h));exact Only.setCell h2 (λ_=> .inl rfl) _
theorem yGh(base g o:Nat)(cs:Array Value)(s:Shf)(v:Value)(w:World)(od:Ordr)(K:Int)(h:ShAt w base g o cs s v)(hs:s.ok K)(hK:K<=1000000)(hB:base<=w.heap.size):Calls prog 102 #[.pointer (some ⟨g,o,none⟩),od.val] w (zDu base g o cs v w (s.order od)):=by
 obtain⟨k,n,life,id⟩:=od;by_cases hk:k<1\/7<k
 ·exact yDs base g o cs s v w k n life id K h hs hK hB hk
 have hk':k=1\/k=2\/k=3\/k=4\/k=5\/k=6\/k=7:=by omega
 by_cases hn:n<1\/1048576<n
 ·rcases hk' with rfl|rfl|rfl|rfl|rfl|rfl|rfl
  ·exact zJw base g o cs s v w _ n life id K h hs hK hB (by decide) hn
  ·exact zJw base g o cs s v w _ n life id K h hs hK hB (by decide) hn
  ·exact zJw base g o cs s v w _ n life id K h hs hK hB (by decide) hn
  ·exact zHp base g o cs s v w _ _ n life id K h hs hK hB (.inl ⟨rfl,rfl⟩)
  ·exact zHp base g o cs s v w _ _ n life id K h hs hK hB (.inr ⟨rfl,rfl⟩)
  ·exact zJw base g o cs s v w _ n life id K h hs hK hB (by decide) hn
  ·exact order7 base g o cs s v w n life id K h hs hK hB
 have h1:1<=n:=by omega
 have h2:n<=1048576:=by omega
 rcases hk' with rfl|rfl|rfl|rfl|rfl|rfl|rfl
 ·by_cases hov:1048576<s.free+cW s.opn+s.used+n
  ·exact yBe base g o cs s v w n life id K h hs hK hB h1 h2 hov
  ·exact yHc base g o cs s v w n life id K h hs hK hB h1 h2 (by omega)
 ·by_cases hls:s.free<n
  ·exact zRn base g o cs s v w _ n life id K h hs hK hB h1 h2 (.inl ⟨rfl,hls⟩)
  ·exact zOw base g o cs s v w _ n life id K h hs hK hB h1 h2 (.inl ⟨rfl,by omega⟩)
 ·exact order3 base g o cs s v w n life id K h hs hK hB h1 h2
 ·exact zHp base g o cs s v w _ _ n life id K h hs hK hB (.inl ⟨rfl,rfl⟩)
 ·exact zHp base g o cs s v w _ _ n life id K h hs hK hB (.inr ⟨rfl,rfl⟩)
 ·by_cases hls:s.used<n
  ·exact zRn base g o cs s v w _ n life id K h hs hK hB h1 h2 (.inr ⟨rfl,hls⟩)
  ·exact zOw base g o cs s v w _ n life id K h hs hK hB h1 h2 (.inr ⟨rfl,by omega⟩)
 ·exact order7 base g o cs s v w n life id K h hs hK hB
def DoPost(base g o:Nat)(cs:Array Value)(v:Value)(w:World)(r:Shf×Stk)(e:Ending)(w':World):Prop:=
 ∃v',e= .returned r.2.val/\ShAt w' base g o (putAt cs o (r.1.cells v')) r.1 v'/\Only (λk=>k=g\/v.ownBlock=some k) w w'/\(∀k,v'.ownBlock=some k->v.ownBlock=some k\/w.heap.size<=k)
theorem yAg(base g o:Nat)(cs:Array Value)(s:Shf)(v:Value)(w:World)(od:Ordr)(K:Int)(h:ShAt w base g o cs s v)(hs:s.ok K)(hK:K<=1000000-1)(hB:base<=w.heap.size):Calls prog 79 #[.pointer (some ⟨g,o,none⟩),od.val] w (DoPost base g o cs v w (s.does od)):=by
 obtain⟨wx,hwx⟩:=kB ((w.alloc (.cells od.cells.toArray 130)).alloc (.cells #[.int .i64 0,.int .i64 0,.int .i64 0,.int .i64 0,.int .i64 0] 40));have hbx:uR w wx:=by rw[hwx];exact((qC _ _).alloc (qA _) _).alloc (by simp) _
 have k0:Blk wx w.heap.size 130 od.cells.toArray:=by rw[hwx];exact(Blk.new w 130 _).alloc _
 have k1:Blk wx (w.heap.size+1) 40 #[.int .i64 0,.int .i64 0,.int .i64 0,.int .i64 0,.int .i64 0]:=by have h:=Blk.new (w.alloc (.cells od.cells.toArray 130)) 40 #[.int .i64 0,.int .i64 0,.int .i64 0,.int .i64 0,.int .i64 0];rw[hwx];simpa using h
 have hx:=h.calm hbx;have HO:=uT (yGh base g o cs s v wx od K hx hs (by omega) (qN hB hbx.size));have hgw:g<w.heap.size:=h.blk.lt;have hvw:∀k,v.ownBlock=some k->k<w.heap.size:=λk hk=>(h.own.lt k hk).2
 have HVW:=uT hvw;have hs2:=zXn hs od;have HS2:=uT hs2;have hll:=hs2.len;have HDO:=uT (show s.does od=((s.order od).1,(s.order od).1.stock (s.order od).2.1 (s.order od).2.2)from rfl);obtain⟨r,hr⟩:=kB (s.order od);rw[<-hr]at HO HS2 hll HDO;obtain⟨s2,rid,rc⟩:=r;dsimp only at HS2 hll HDO;obtain⟨HK1,HBX⟩:=uI k1 hbx;obtain⟨ok,on,ol,oi⟩:=od;unfold Ordr.val at HO⊢;dsimp only at HO⊢;unfold Ordr.cells at k0 hwx;dsimp only at k0 hwx;have q0:=k0.cell 0;have q1:=k0.cell 1;have q2:=k0.cell 2;have q3:=k0.cell 3;rw[hwx]at q0 q1 q2 q3;have HWX:=uT hwx;clear hx h hbx hs k0 k1 hwx hs2 hr hvw;go_enter func79,ntmps79;go_wp2_with fail;rw[<-HWX.s];clear q0 q1 q2 q3;refine HO.s.mono ?_;rintro _ w2 ⟨v2,rfl,hx2,ho2,ha2⟩;have hn1:∀k,w.heap.size<=k->¬ (k=g\/v.ownBlock=some k):=λk hk hc=>by
  rcases hc with rfl|hc
  ·omega
  ·have:=HVW.s k hc;omega
 have k2:=HK1.s.only ho2 (hn1 _ (by omega));obtain⟨HST,HX2,HO2,HA2,HK2⟩:=uL (zLa base g o _ s2 v2 w2 hx2 (by omega) λx hx=>by have:=HS2.s.each x hx;omega) hx2 ho2 ha2 k2;unfold Shf.stock Stk.val at HST;dsimp only at HST;clear hx2 ho2 ha2 k2 hn1;go_wp2_with fail;refine HST.s.mono ?_;rintro _ w3 ⟨rfl,hb3⟩;have k3:=HK2.s.below hb3 HK2.s.lt;have d0:=k3.cell 0;have d1:=k3.cell 1;have d2:=k3.cell 2;have d3:=k3.cell 3;have d4:=k3.cell 4;have f0:=k3.frozen 0;have f1:=k3.frozen 1;have f2:=k3.frozen 2;have f3:=k3.frozen 3;have f4:=k3.frozen 4;have hlt3:=k3.lt;have HK3:=uT k3;have key:∀WF,Only (λk=>k=w.heap.size+1) w3 WF->DoPost base g o cs v w (s.does ⟨ok,on,ol,oi⟩) (.returned (s2.stock rid rc).val) WF:=by
  intro WF hF;rw[HDO.s];have hg3:w2.heap.size<=w3.heap.size:=hb3.size;have hx3:=HX2.s.calm hb3;have hsx:wx.heap.size=w.heap.size+2:=by rw[HWX.s];simp
  refine⟨v2,rfl,hx3.only hF (by omega) (λk hk e=> ?_),?_,λk hk=> ?_⟩
  ·rcases HA2.s k hk with h1|h1
   ·have:=HVW.s k h1;omega
   ·omega
  ·have h1:Only (λk=>k=g\/v.ownBlock=some k) w wx:=Only.of_below HBX.s λx hx hB=>by omega
   exact((h1.trans HO2.s λx _ h=>h).calm hb3).trans hF (λx hx h=>by omega)
  ·rcases HA2.s k hk with h1|h1
   ·exact .inl h1
   ·exact .inr (by omega)
 have KEY:=uT key;clear hb3 k3 key;go_wp2_with fail;obtain⟨w5,hw5⟩:=kB (((((w3.setCell ⟨w.heap.size+1,0,none⟩ (.int .i64 rc)).setCell ⟨w.heap.size+1,1,none⟩ (.int .i64 rid)).setCell ⟨w.heap.size+1,2,none⟩ (.int .i64 s2.free)).setCell ⟨w.heap.size+1,3,none⟩ (.int .i64 (cW s2.opn))).setCell ⟨w.heap.size+1,4,none⟩ (.int .i64 s2.used));have hO5:Only (λk=>k=w.heap.size+1) w3 w5:=by rw[hw5];exact bJ (bJ (bJ (bJ (bJ (Only.refl _ _) _ _) _ _) _ _) _ _) _ _
 have k5:Blk w5 (w.heap.size+1) 40 #[.int .i64 rc,.int .i64 rid,.int .i64 s2.free,.int .i64 (cW s2.opn),.int .i64 s2.used]:=by rw[hw5];exact((((HK3.s.set_ 0 _).set_ 1 _).set_ 2 _).set_ 3 _).set_ 4 _
 rw[<-hw5];have k6:=k5.alloc (.cells #[.int .i64 rc,.int .i64 rid,.int .i64 s2.free,.int .i64 (cW s2.opn),.int .i64 s2.used] 40);have z0:=k6.cell 0;have z1:=k6.cell 1;have z2:=k6.cell 2;have z3:=k6.cell 3;have z4:=k6.cell 4;have HO5:=uT hO5;clear hO5 k5 k6 hw5 d0 d1 d2 d3 d4 f0 f1 f2 f3 f4;refine bodyPost_ret (v:=(s2.stock rid rc).val) (by simp[results,Tryz.results79,go_sem,z0,z1,z2,z3,z4];rfl) rfl (KEY.s _ (HO5.s.alloc _))
theorem yGq{l:List (Int×Int)}{j:Nat}{x:Int×Int}(hx:l[j]? =some x):cJ (l.set j (x.1,0))+(if 0<x.2 then x.1 else 0)=cJ l:=by
 have hk:=(qK.1 hx).1;have e:l=l.take j++x::l.drop (j+1):=by rw[<-cZ l j x hx,jW]
 have e2:l.set j (x.1,0)=l.take j++(x.1,0)::l.drop (j+1):=by
  conv=>lhs;rw[e]
  rw[List.set_append_right _ _ (by simp;omega),qY,Nat.min_eq_left (by omega),Nat.sub_self,List.set_cons_zero]
 rw[e2,zEj]
 conv=>rhs;rw[e,zEj]
 obtain⟨c,t⟩:=x;simp only[cJ];simp;omega
theorem yEj{l:List (Int×Int)}(h:∀x∈l,0<=x.1/\x.1<=1048576/\0<=x.2/\x.2<=20):cJ (l.map zBo)+gK l=cJ l:=by
 induction l with
 |nil=>rfl
 |cons x l ih=>
  obtain⟨c,t⟩:=x;have h1:=h (c,t) (by simp);have h2:=ih (λy hy=>h y (by simp[hy]));dsimp only at h1;rw[qJ];by_cases hp:0<t
  ·have ea:zBo (c,t)=(c,t-1):=by simp[zBo,hp]
   rw[ea,cJ,gK,cJ,if_pos hp];by_cases h3:t=1
   ·rw[if_neg (by omega),if_pos h3];omega
   ·rw[if_pos (by omega),if_neg h3];omega
  ·have ea:zBo (c,t)=(c,t):=by simp[zBo,hp]
   rw[ea,cJ,gK,cJ,if_neg hp,if_neg (by omega)];omega
theorem zLj{r:Rk}{K:Nat}(h:r.ok K)(o:Ordr):(r.order o).1.ok (K+1):=by
 have hK:r.ok (K+1):={h with len:=by have:=h.len;omega};have hh:=(zHj h.rows).1;have h1:=h.free0;have h2:=h.used0;have h3:=h.all;unfold Rk.order;by_cases ck:o.kind<1\/7<o.kind
 ·rw[if_pos ck];exact hK
 rw[if_neg ck];by_cases c0:(dG o.kind&& !gS o)=true
 ·rw[if_pos c0];exact hK
 rw[if_neg c0];have hc:dG o.kind=true->1<=o.count/\o.count<=1048576:=λha=>by
  cases hb:gS o with
  |true=>simpa[gS]using hb
  |false=>rw[ha,hb]at c0;simp at c0
 by_cases c1:o.kind=1
 ·rw[if_pos c1];have:=hc (by rw[c1];rfl)
  split
  ·exact hK
  ·exact{hK with free0:=by dsimp only;omega,all:=by dsimp only;omega}
 rw[if_neg c1];by_cases c2:o.kind=2
 ·rw[if_pos c2];have:=hc (by rw[c2];rfl)
  split
  ·exact hK
  ·exact{hK with free0:=by dsimp only;omega,used0:=by dsimp only;omega,all:=by dsimp only;omega}
 rw[if_neg c2];by_cases c6:o.kind=6
 ·rw[if_pos c6];have:=hc (by rw[c6];rfl)
  split
  ·exact hK
  ·exact{hK with free0:=by dsimp only;omega,used0:=by dsimp only;omega,all:=by dsimp only;omega}
 rw[if_neg c6];by_cases c3:o.kind=3
 ·rw[if_pos c3];have hcn:=hc (by rw[c3];rfl)
  split
  ·exact hK
  ·rename_i hl
   split
   ·exact hK
   ·split
    ·exact hK
    ·refine⟨by dsimp only;omega,h2,?_,?_,by have:=h.len;dsimp only;simp;omega⟩
     ·dsimp only;rw[zEj];simp only[cJ];rw[if_pos (by omega)];omega
     ·intro x hx;rcases jI.1 hx with hx|hx
      ·exact h.rows x hx
      ·rw[jJ]at hx;subst hx;dsimp only;omega
 rw[if_neg c3];by_cases c45:o.kind=4\/o.kind=5
 ·rw[if_pos c45]
  split
  ·exact hK
  ·cases hx:r.rows[o.id.toNat-1]? with
   |none=>exact hK
   |some x=>
    dsimp only
    split
    ·exact hK
    ·rename_i hz;have hxb:=h.rows x (qB hx);have hs:=yGq hx;rw[if_pos (by omega)]at hs;refine⟨?_,?_,?_,?_,by have:=h.len;dsimp only;simp;omega⟩
     ·dsimp only;split<;>omega
     ·dsimp only;split<;>omega
     ·dsimp only;split<;>omega
     ·intro y hy;rcases jO hy with hy|rfl
      ·exact h.rows y hy
      ·dsimp only;omega
 rw[if_neg c45];have ha:=yEj h.rows;have hb:=zVi h.rows;refine⟨by dsimp only;omega,h2,by dsimp only;omega,?_,by have:=h.len;dsimp only;simp;omega⟩;intro x hx;obtain⟨y,hy,rfl⟩:=jC.1 hx;have:=h.rows y hy;unfold zBo;dsimp only
 split<;>omega
theorem zRr(base g o:Nat)(cs:Array Value)(r:Rk)(vc vl:Value)(w:World)(od:Ordr)(K:Nat)(h:RkAt w base g o cs r vc vl)(hs:r.ok K)(hK:K<=1000000-1)(hB:base<=w.heap.size):Calls prog 75 #[.pointer (some ⟨g,o,none⟩),od.val] w (zBu base g o cs vc vl w (r.order od)):=by
 obtain⟨k,n,life,id⟩:=od;by_cases hk:k<1\/7<k
 ·exact yHt base g o cs r vc vl w k n life id K h hs hK hB hk
 have hk':k=1\/k=2\/k=3\/k=4\/k=5\/k=6\/k=7:=by omega
 have hshut:∀(P:Int->Prop),P k->(k=4\/k=5)->P k:=λ_ h _=>h
 by_cases h45:k=4\/k=5
 ·by_cases hid:id<1\/(r.rows.length:Int)<id
  ·exact yFo base g o cs r vc vl w _ n life id K h hs hK hB h45 hid
  ·obtain⟨j,rfl⟩:∃j:Nat,id=(j:Int)+1:=⟨(id-1).toNat,by omega⟩;obtain⟨x,hx⟩:∃x,r.rows[j]? =some x:=⟨_,qI (by omega)⟩;have hx0:=hs.rows x (qB hx);by_cases hz:x.2=0
   ·exact rack_old base g o cs r vc vl w _ n life j x K h hs hK hB h45 hx hz
   ·rcases h45 with rfl|rfl
    ·exact zSf base g o cs r vc vl w _ n life j x K h hs hK hB _ _ (.inl ⟨rfl,rfl,rfl⟩) hx (by omega)
    ·exact zSf base g o cs r vc vl w _ n life j x K h hs hK hB _ _ (.inr ⟨rfl,rfl,rfl⟩) hx (by omega)
 by_cases h7:k=7
 ·subst h7;exact rack7 base g o cs r vc vl w n life id K h hs hK hB
 have hk2:k=1\/k=2\/k=3\/k=6:=by omega
 by_cases hn:n<1\/1048576<n
 ·rcases hk2 with rfl|rfl|rfl|rfl
  ·exact zLx base g o cs r vc vl w _ n life id K h hs hK hB (by decide) hn
  ·exact zLx base g o cs r vc vl w _ n life id K h hs hK hB (by decide) hn
  ·exact zLx base g o cs r vc vl w _ n life id K h hs hK hB (by decide) hn
  ·exact zLx base g o cs r vc vl w _ n life id K h hs hK hB (by decide) hn
 have h1:1<=n:=by omega
 have h2:n<=1048576:=by omega
 rcases hk2 with rfl|rfl|rfl|rfl
 ·by_cases hov:1048576<r.free+cJ r.rows+r.used+n
  ·exact yEx base g o cs r vc vl w n life id K h hs hK hB h1 h2 hov
  ·exact rack1_ok base g o cs r vc vl w n life id K h hs hK hB h1 h2 (by omega)
 ·by_cases hls:r.free<n
  ·exact zUm base g o cs r vc vl w _ n life id K h hs hK hB h1 h2 (.inl ⟨rfl,hls⟩)
  ·exact zQw base g o cs r vc vl w _ n life id K h hs hK hB h1 h2 _ _ (.inl ⟨rfl,by omega,rfl,rfl⟩)
 ·by_cases hl:life<1\/20<life
  ·exact yEb base g o cs r vc vl w n life id K h hs hK hB h1 h2 hl
  by_cases hf:4<=fE r.rows
  ·exact yEp base g o cs r vc vl w n life id K h hs hK hB h1 h2 (by omega) (by omega) hf
  by_cases hls:r.free<n
  ·exact yDf base g o cs r vc vl w n life id K h hs hK hB h1 h2 (by omega) (by omega) (by omega) hls
  ·exact rack3_ok base g o cs r vc vl w n life id K h hs hK hB h1 h2 (by omega) (by omega) (by omega) (by omega)
 ·by_cases hls:r.used<n
  ·exact zUm base g o cs r vc vl w _ n life id K h hs hK hB h1 h2 (.inr ⟨rfl,hls⟩)
  ·exact zQw base g o cs r vc vl w _ n life id K h hs hK hB h1 h2 _ _ (.inr ⟨rfl,by omega,rfl,rfl⟩)
def zXp(base g o:Nat)(cs:Array Value)(vc vl:Value)(w:World)(r:Rk×Stk)(e:Ending)(w':World):Prop:=
 ∃vc' vl',e= .returned r.2.val/\RkAt w' base g o (putAt cs o (r.1.cells vc' vl')) r.1 vc' vl'/\Only (RkD g vc vl) w w'/\∀k,RkD g vc' vl' k->RkD g vc vl k\/w.heap.size<=k
theorem zVy(base g o:Nat)(cs:Array Value)(r:Rk)(vc vl:Value)(w:World)(od:Ordr)(K:Nat)(h:RkAt w base g o cs r vc vl)(hs:r.ok K)(hK:K<=1000000-1)(hB:base<=w.heap.size):Calls prog 47 #[.pointer (some ⟨g,o,none⟩),od.val] w (zXp base g o cs vc vl w (r.does od)):=by
 obtain⟨wx,hwx⟩:=kB ((w.alloc (.cells od.cells.toArray 130)).alloc (.cells #[.int .i64 0,.int .i64 0,.int .i64 0,.int .i64 0,.int .i64 0] 40));have hbx:uR w wx:=by rw[hwx];exact((qC _ _).alloc (qA _) _).alloc (by simp) _
 have k0:Blk wx w.heap.size 130 od.cells.toArray:=by rw[hwx];exact(Blk.new w 130 _).alloc _
 have k1:Blk wx (w.heap.size+1) 40 #[.int .i64 0,.int .i64 0,.int .i64 0,.int .i64 0,.int .i64 0]:=by have h:=Blk.new (w.alloc (.cells od.cells.toArray 130)) 40 #[.int .i64 0,.int .i64 0,.int .i64 0,.int .i64 0,.int .i64 0];rw[hwx];simpa using h
 have hx:=h.calm hbx;obtain⟨HO,HLT⟩:=uI (zRr base g o cs r vc vl wx od K hx hs hK (qN hB hbx.size)) h.lt;have hs2:=zLj hs od;have HDO:=uT (show r.does od=((r.order od).1,(r.order od).1.stock (r.order od).2.1 (r.order od).2.2)from rfl);obtain⟨t,ht⟩:=kB (r.order od);rw[<-ht]at HO hs2 HDO;obtain⟨r2,rid,rc⟩:=t;dsimp only at hs2 HDO;obtain⟨HS2,HK1,HBX⟩:=uJ hs2 k1 hbx;obtain⟨ok,on,ol,oi⟩:=od;unfold Ordr.val at HO⊢;dsimp only at HO⊢;unfold Ordr.cells at k0 hwx;dsimp only at k0 hwx;have q0:=k0.cell 0;have q1:=k0.cell 1;have q2:=k0.cell 2;have q3:=k0.cell 3;rw[hwx]at q0 q1 q2 q3;have HWX:=uT hwx;clear hx h hbx hs k0 k1 hwx hs2 ht;go_enter func47,ntmps47;go_wp2_with fail;rw[<-HWX.s];clear q0 q1 q2 q3;refine HO.s.mono ?_;rintro _ w2 ⟨vc2,vl2,rfl,hx2,ho2,ha2⟩;have hn1:∀k,w.heap.size<=k->¬ RkD g vc vl k:=λk hk hc=>by have:=HLT.s k hc;omega
 have k2:=HK1.s.only ho2 (hn1 _ (by omega));have c0:=λn:Ext w2=>n.cell hx2.c0
 have c1:=λn:Ext w2=>n.cell hx2.c1
 obtain⟨HST,HX2,HO2,HA2,HK2⟩:=uL (λW (hW:uR w2 W)=>(zGe base g o _ r2 vc2 vl2 W (K+1) (hx2.calm hW) HS2.s (by omega)).mono λe w' (h:e= .returned (.int .i64 (cJ r2.rows))/\W=w')=>And.intro h.1 (show uR W w' by rw[<-h.2];exact qC _ _)) hx2 ho2 ha2 k2;clear hx2 ho2 ha2 k2 hn1;go_wp2_with fail;refine gF 13 (by kernel_rfl) (by kernel_rfl) ?_;simp only[qX,jE,qZ,jL]
 repeat(go_big_quiet_step ((go_at_call 28;exact fT (HST.s _ (Ext.h _)))))
 refine qF ?_;rintro _ ⟨nq,rfl⟩;have k3:=HK2.s.below nq.h HK2.s.lt;have d0:=k3.cell 0;have d1:=k3.cell 1;have d2:=k3.cell 2;have d3:=k3.cell 3;have d4:=k3.cell 4;have f0:=k3.frozen 0;have f1:=k3.frozen 1;have f2:=k3.frozen 2;have f3:=k3.frozen 3;have f4:=k3.frozen 4;have hlt3:=k3.lt;have HK3:=uT k3;have key:∀WF,Only (λk=>k=w.heap.size+1) nq.W WF->zXp base g o cs vc vl w (r.does ⟨ok,on,ol,oi⟩) (.returned (r2.stock rid rc).val) WF:=by
  intro WF hF;rw[HDO.s];have hx3:=HX2.s.calm nq.h;have hsx:wx.heap.size=w.heap.size+2:=by rw[HWX.s];simp
  refine⟨vc2,vl2,rfl,hx3.only hF (λk hk e=> ?_),?_,λk hk=> ?_⟩
  ·rcases HA2.s k hk with h1|h1
   ·have:=HLT.s k h1;omega
   ·omega
  ·have h1:Only (RkD g vc vl) w wx:=Only.of_below HBX.s λx hx hB=>by omega
   exact((h1.trans HO2.s λx _ h=>h).calm nq.h).trans hF (λx hx h=>by omega)
  ·rcases HA2.s k hk with h1|h1
   ·exact .inl h1
   ·exact .inr (by omega)
 have KEY:=uT key;clear k3 key c0 c1;go_wp2_with fail;obtain⟨w5,hw5⟩:=kB (((((nq.W.setCell ⟨w.heap.size+1,0,none⟩ (.int .i64 rc)).setCell ⟨w.heap.size+1,1,none⟩ (.int .i64 rid)).setCell ⟨w.heap.size+1,2,none⟩ (.int .i64 r2.free)).setCell ⟨w.heap.size+1,3,none⟩ (.int .i64 (cJ r2.rows))).setCell ⟨w.heap.size+1,4,none⟩ (.int .i64 r2.used));have hO5:Only (λk=>k=w.heap.size+1) nq.W w5:=by rw[hw5];exact bJ (bJ (bJ (bJ (bJ (Only.refl _ _) _ _) _ _) _ _) _ _) _ _
 have k5:Blk w5 (w.heap.size+1) 40 #[.int .i64 rc,.int .i64 rid,.int .i64 r2.free,.int .i64 (cJ r2.rows),.int .i64 r2.used]:=by rw[hw5];exact((((HK3.s.set_ 0 _).set_ 1 _).set_ 2 _).set_ 3 _).set_ 4 _
 rw[<-hw5];have z0:=k5.cell 0;have z1:=k5.cell 1;have z2:=k5.cell 2;have z3:=k5.cell 3;have z4:=k5.cell 4;have HO5:=uT hO5;clear hO5 k5 hw5 d0 d1 d2 d3 d4 f0 f1 f2 f3 f4;refine bodyPost_ret (v:=(r2.stock rid rc).val) (by simp[results,Tryz.results47,go_sem,z0,z1,z2,z3,z4];rfl) rfl (KEY.s _ HO5.s)
end Go.Proofs.YtbolcebmbpepdaaGreatDoor
