/- Contracts. Conditions: those each states. -/
import Derived.Test.YtbolcebmbpepdaaGreatDoorM25
namespace Go.Proofs.YtbolcebmbpepdaaGreatDoor
set_option maxRecDepth 100000
set_option maxHeartbeats 8000000
set_option linter.all false
open Go.RowKit Tryz
section
variable {w:World}{c:Cfg}{y:fD}{S:WS}{K base:Nat}{ow:Nat->Tag}
set_option maxRecDepth 1000000 in
theorem yFk(h:RW w c y S K base ow)(N:Nat)(hS:S.ok c N)(hG:GoodW c K S)(hLn:zNt S)(hN:N<=10000)(hK:K<=1000)(s:StpI)(hwf:(Lit.int .i64 s.id).wf=true)(hk:s.kind=10\/s.kind=11):Calls prog 44 #[.pointer (some ⟨y.hb,0,none⟩),s.val] w (StepR w c y K base ow (stepW c S s)):=by
 have HE:uS (s.kind=11->stepW c S s=if gD S s.id=0 then(bY 0 0,S.lose s.id)else(bY (gD S s.id) 0,S)):=uT λe=>by unfold stepW;rw[if_neg (by omega),if_neg (by omega),if_pos e]
 have HE2:uS (s.kind=10->stepW c S s=fZ c S s.id):=uT λe=>by unfold stepW;rw[if_neg (by omega),if_pos e]
 obtain⟨⟨hn,hn1,hn8⟩,hln,htk,hm3,hcap,hla,hmi⟩:=bK h.may;obtain⟨sb,hsb⟩:=kB w.heap.size;obtain⟨qb,hqb⟩:=kB (w.heap.size+1);obtain⟨wx,hwx⟩:=kB ((w.alloc (.cells s.cells.toArray 48)).alloc (.cells (bR 0 0).cells.toArray 57));have hX:=StT.of (s:=s) h;rw[<-hwx,<-hqb,<-hsb]at hX;obtain⟨⟨v,fs,hb1,hb2,hb3,hb4,hb5,hb6⟩,hbo⟩:=hX.pw.pc .off;obtain⟨vA,vc,rfl,_⟩:=bE hb2;have hlen:fs.length=S.lts.length:=by rw[<-hb3,qQ]
 obtain⟨L,hL⟩:=kB S.lts.length;rw[hlen,<-hL]at hb1 hb2 hb6;have hLL:L<=1000000:=by have:=hS.len;omega
 have c10:wx.cell? ⟨y.hb,10,none⟩=some (.slice vA L vc):=hb1.cell 10;have s5:wx.cell? ⟨sb,5,none⟩=some (.int .i64 s.id):=hX.sk.cell 5;obtain⟨HX,HWX,HIX,HROW,HFL,HBY,HMP,HFN,HL,HS⟩:=uQ hX hwx (And.intro hsb hqb) hb2 hb5 hb4 hb3 hlen hL hS;obtain⟨HGW,HLTL,HN,HLN⟩:=uK hG hLn hn hln;clear hLn hX hwx hsb hqb hb1 hb2 hb3 hb4 hb5 hb6 hbo hlen hL hS hG hn hla hmi htk hln hcap h;have e0:s.val= .agg #[.int .i64 s.kind,.int .i64 s.who,.int .i64 s.item,.int .i64 s.count,.int .i64 s.life,.int .i64 s.id,.int .i64 s.label,.int .i64 s.key]:=rfl;rw[e0];clear e0;go_enter func44,ntmps44;go_upto_region 1 with fail;rw[zAf,zLp s,<-HWX.s,<-HIX.s.2,<-HIX.s.1];by_cases hneg:s.id<0
 ·have a0:decide (s.id<0)=true:=by simpa using hneg
  have hdue:gD S s.id=6:=yCa (.inl hneg);refine wp_region_quiet_lit (by as_aux_lemma=>kernel_rfl) (by as_aux_lemma=>kernel_rfl) ?_
  repeat(go_big_quiet_step (fail))
  refine qF ?_;rintro _ ⟨nq,rfl⟩;have HX2:=uT (HX.s.calm (below_drewN (qC _ _) nq));clear c10 s5 HX;generalize wx.drewN nq=w2 at HX2⊢;obtain⟨_,_,_,_,_,_,_,_,_,_,_⟩:=bW HX2.s.qk;obtain⟨_,_,_,_,_,_,_,_,_,_,_⟩:=bS HX2.s.qk;go_wp2_with fail;refine dC (w:=w2) (t:=(bR 6 0)) HX2.s.qk rfl λw9 HO9=> ?_
  replace HO9:=uT HO9;rw[show stepW c S s=(bY 6 0,S)by
   rcases hk with e|e
   ·rw[HE2.s e];unfold fZ;rw[if_pos hdue]
   ·rw[HE.s e,hdue];rfl]
  exact HX2.s.told 6 0 HO9.s
 have a0:decide (s.id<0)=false:=by simpa using hneg
 by_cases hge:(L:Int)<=s.id
 ·have a1:decide (s.id≥(L:Int))=true:=by simpa using hge
  have hdue:gD S s.id=6:=yCa (.inr (by rw[<-HL.s];exact hge));refine wp_region_quiet_lit (by as_aux_lemma=>kernel_rfl) (by as_aux_lemma=>kernel_rfl) ?_
  repeat(go_big_quiet_step (fail))
  refine qF ?_;rintro _ ⟨nq,rfl⟩;have HX2:=uT (HX.s.calm (below_drewN (qC _ _) nq));clear c10 s5 HX;generalize wx.drewN nq=w2 at HX2⊢;obtain⟨_,_,_,_,_,_,_,_,_,_,_⟩:=bW HX2.s.qk;obtain⟨_,_,_,_,_,_,_,_,_,_,_⟩:=bS HX2.s.qk;go_wp2_with fail;refine dC (w:=w2) (t:=(bR 6 0)) HX2.s.qk rfl λw9 HO9=> ?_
  replace HO9:=uT HO9;rw[show stepW c S s=(bY 6 0,S)by
   rcases hk with e|e
   ·rw[HE2.s e];unfold fZ;rw[if_pos hdue]
   ·rw[HE.s e,hdue];rfl]
  exact HX2.s.told 6 0 HO9.s
 have a1:decide (s.id≥(L:Int))=false:=by simpa using hge
 refine wp_region_quiet_lit (by as_aux_lemma=>kernel_rfl) (by as_aux_lemma=>kernel_rfl) ?_
 repeat(go_big_quiet_step (fail))
 refine qF ?_;rintro _ ⟨nq,rfl⟩;have hbw2:=below_drewN (qC wx.heap.size wx) nq;generalize wx.drewN nq=w2 at hbw2⊢;go_upto_region 3 with fail;obtain⟨k,hkk⟩:=qP (by omega:0<=s.id);have hkL:k<L:=by omega
 obtain⟨f,hf⟩:∃f,fs[k]? =some f:=⟨_,qI (by rw[HFN.s,<-HL.s];exact hkL)⟩;have hp:S.lts[k]? =some f.d:=by rw[<-HMP.s,qV,hf];rfl
 rw[hkk]at s5;obtain⟨g,go,_,_,cg,_⟩:=HX.s.pw.flag hp;rw[c10,<-HL.s]at cg;injection cg with cg;injection cg with cg1 _ cg2;subst cg1 cg2;have HFC:uS (∀W,uR wx W->∀(j:Nat) (fj:FrR),fs[j]? =some fj->∀(i:Nat) (u:Value),fj.cells[i]? =some u->W.cell? ⟨g,j*5+i,none⟩=some u):=uT (by
  intro W hW j fj hj i u hi;obtain⟨b,oo,x,e,_,hx,hc⟩:=fB FrR.cells_len (by omega) (Reads.of_own (bI HROW.s hW)) (k:=j) (by have:=(qK.1 hj).1;have:=HFN.s;have:=HL.s;omega) (by rw[HFN.s,HL.s]);injection e with e;injection e with e1 e2;subst e1 e2;rw[hj]at hx;injection hx with hx;subst hx;have:=hc i u hi
  rwa[Nat.zero_add]at this)
 have e10:=λm:Ext w2=>m.cell ((⟨w2,hbw2⟩:Ext wx).cell c10)
 have e5:=λm:Ext w2=>m.cell ((⟨w2,hbw2⟩:Ext wx).cell s5)
 have i0:=λm:Ext w2=>m.cell (show w2.cell? ⟨g,k*5,none⟩=some (.int .i64 f.d.fr)from HFC.s w2 hbw2 k f hf 0 _ rfl)
 have i1:=λm:Ext w2=>m.cell (HFC.s w2 hbw2 k f hf 1 _ rfl)
 have i2:=λm:Ext w2=>m.cell (HFC.s w2 hbw2 k f hf 2 _ rfl)
 have i3:=λm:Ext w2=>m.cell (HFC.s w2 hbw2 k f hf 3 _ rfl)
 have i4:=λm:Ext w2=>m.cell (HFC.s w2 hbw2 k f hf 4 _ rfl)
 have HHF:=uT hf;have HC10:uS (∀W,uR wx W->W.cell? ⟨y.hb,10,none⟩=some (.slice (some ⟨g,0,none⟩) L vc)):=uT λW hW=>(⟨W,hW⟩:Ext wx).cell c10
 obtain⟨HPF,HB2⟩:=uI hp hbw2;clear s5 c10 hf hp hbw2;refine bO [] [0,1,2,3,4,5,6,7] [] [8] 9 [] (by as_aux_lemma=>kernel_rfl) (by as_aux_lemma=>kernel_rfl) (by intro c a d v w h;cases d<;>exact h) ?_;simp only[bB,qJ,qO,qD,qE];refine qF ?_
 repeat(go_big_quiet_step (fail))
 refine qF (qF ?_);clear e10 e5 i0 i1 i2 i3 i4;rintro W1 ⟨nq,hW⟩;have hWB:uR w2 W1:=hW▸nq.h;clear hW;simp only[fJ];go_wp2_with fail;refine⟨⟨⟨_,hWB.alloc hWB.size _⟩,rfl⟩,?_⟩;go_upto_region 4 with fail;rw[show(#[.int .i64 f.d.fr,.int .i64 f.d.to_,.slice f.A f.n f.c,.bool f.lost,.bool f.opened]:Array Value)=f.cells.toArray from rfl];obtain⟨fb,hfb⟩:=kB W1.heap.size;have k3:Blk (W1.alloc (.cells f.cells.toArray 146)) fb 146 f.cells.toArray:=by rw[hfb];exact Blk.new _ _ _
 have hbw3:uR wx (W1.alloc (.cells f.cells.toArray 146)):=HB2.s.trans ((hWB.mono HB2.s.size).alloc (qN HB2.s.size hWB.size) _);have HFB:=uT (show wx.heap.size<=fb by have:=HB2.s.size;have:=hWB.size;omega);have hfn:ow fb= .no:=HX.s.pw.fresh fb (by have:=HB2.s.size;have:=hWB.size;omega);rw[<-hfb];generalize W1.alloc (.cells f.cells.toArray 146)=w3 at k3 hbw3⊢;clear hWB hfb HB2;obtain⟨HK3,HB3,HF3⟩:=uJ k3 hbw3 hfn;have i3:w3.cell? ⟨fb,3,none⟩=some (.bool f.lost):=k3.cell 3;have s5:w3.cell? ⟨sb,5,none⟩=some (.int .i64 (k:Int)):=by rw[<-hkk];exact(HX.s.calm hbw3).sk.cell 5
 clear k3 hbw3 hfn;go_wp2_with fail
 go_loopw [6,7] (λo i wr=>∃j:Nat,k<=j/\j<=L/\o= .bool (f.lost||zCx fs f k j)/\i= .int .i64 j/\uR w3 wr) (λ_ i _=>L-(intOf i).toNat)
 case atStart=>refine⟨k,qA _,by omega,?_,rfl,by first|exact qC _ _|exact below_drewN (qC _ _) _⟩;unfold zCx;rw[List.drop_eq_nil_of_le (by rw[qY];omega)];simp
 case round=>
  obtain⟨j,hkj,hjL,rfl,rfl,hbr⟩:=hrel;clear i3 s5;have hbx:=HB3.s.trans (hbr.mono HB3.s.size);have hkr:=HK3.s.below hbr HK3.s.lt;by_cases hlt:j<L
  ·have hlt':(j:Int)<(L:Int):=by omega
   have c10:=HC10.s wr hbx;obtain⟨fj,hfj⟩:∃fj,fs[j]? =some fj:=⟨_,qI (by rw[HFN.s,<-HL.s];exact hlt)⟩;have q0:wr.cell? ⟨g,j*5,none⟩=some (.int .i64 fj.d.fr):=HFC.s wr hbx j fj hfj 0 _ rfl;have q1:=HFC.s wr hbx j fj hfj 1 _ rfl;have q4:=HFC.s wr hbx j fj hfj 4 _ rfl;have b0:wr.cell? ⟨fb,0,none⟩=some (.int .i64 f.d.fr):=hkr.cell 0;have b1:wr.cell? ⟨fb,1,none⟩=some (.int .i64 f.d.to_):=hkr.cell 1;obtain⟨HOS,HBR⟩:=uI (zVu (f:=f) hkj hfj) hbr;clear hbx hkr hfj hbr;obtain⟨o,ho⟩:=kB ((f.lost||zCx fs f k j));obtain⟨jo,hjo⟩:=kB fj.opened;obtain⟨ef,hef⟩:=kB (decide (fj.d.fr=f.d.fr));obtain⟨et,het⟩:=kB (decide (fj.d.to_=f.d.to_));have hbe:(fj.d.fr==f.d.fr)=ef:=by rw[hef];rfl
   have hbt:(fj.d.to_==f.d.to_)=et:=by rw[het];rfl
   rw[<-ho];rw[<-hjo]at q4;have HOE:uS ((f.lost||zCx fs f k (j+1))=(o||(jo&&ef&&et))):=uT (by rw[HOS.s,<-hjo,<-hef,<-het,ho,Bool.or_assoc]);clear ho hjo hef het HOS;cases o with
   |true=>
    go_wp2_with fail;refine wp_region_quiet_lit (by as_aux_lemma=>kernel_rfl) (by as_aux_lemma=>kernel_rfl) ?_
    repeat(go_big_quiet_step (fail))
    refine qF ?_;rintro _ ⟨nq,rfl⟩;go_wp2_with fail;go_roundw
    case rel=>exact⟨j+1,by omega,by omega,by rw[HOE.s];first|rfl|simp,by go_num,HBR.s.trans (by first|exact below_drewN (qC _ _) _|exact(below_drewN (qC _ _) _).drew)⟩
    case measure=>simp[intOf];omega
   |false=>
    cases jo with
    |false=>
     go_wp2_with fail;refine wp_region_quiet_lit (by as_aux_lemma=>kernel_rfl) (by as_aux_lemma=>kernel_rfl) ?_
     repeat(go_big_quiet_step (fail))
     refine qF ?_;rintro _ ⟨nq,rfl⟩;go_wp2_with fail;go_roundw
     case rel=>exact⟨j+1,by omega,by omega,by rw[HOE.s];first|rfl|simp,by go_num,HBR.s.trans (by first|exact below_drewN (qC _ _) _|exact(below_drewN (qC _ _) _).drew)⟩
     case measure=>simp[intOf];omega
    |true=>
     cases ef with
     |false=>
      go_wp2_with fail;refine wp_region_quiet_lit (by as_aux_lemma=>kernel_rfl) (by as_aux_lemma=>kernel_rfl) ?_
      repeat(go_big_quiet_step (fail))
      refine qF ?_;rintro _ ⟨nq,rfl⟩;go_wp2_with fail;go_roundw
      case rel=>exact⟨j+1,by omega,by omega,by rw[HOE.s];first|rfl|simp,by go_num,HBR.s.trans (by first|exact below_drewN (qC _ _) _|exact(below_drewN (qC _ _) _).drew)⟩
      case measure=>simp[intOf];omega
     |true=>
      cases et with
      |false=>
       go_wp2_with fail;refine wp_region_quiet_lit (by as_aux_lemma=>kernel_rfl) (by as_aux_lemma=>kernel_rfl) ?_
       repeat(go_big_quiet_step (fail))
       refine qF ?_;rintro _ ⟨nq,rfl⟩;go_wp2_with fail;go_roundw
       case rel=>exact⟨j+1,by omega,by omega,by rw[HOE.s];first|rfl|simp,by go_num,HBR.s.trans (by first|exact below_drewN (qC _ _) _|exact(below_drewN (qC _ _) _).drew)⟩
       case measure=>simp[intOf];omega
      |true=>
       go_wp2_with fail;refine wp_region_quiet_lit (by as_aux_lemma=>kernel_rfl) (by as_aux_lemma=>kernel_rfl) ?_
       repeat(go_big_quiet_step (fail))
       refine qF ?_;rintro _ ⟨nq,rfl⟩;go_wp2_with fail;go_roundw
       case rel=>exact⟨j+1,by omega,by omega,by rw[HOE.s];first|rfl|simp,by go_num,HBR.s.trans (by first|exact below_drewN (qC _ _) _|exact(below_drewN (qC _ _) _).drew)⟩
       case measure=>simp[intOf];omega
  ·obtain rfl:j=L:=by omega
   clear hlt hjL;obtain⟨old,hold⟩:=kB ((f.lost||zCx fs f k j));rw[<-hold];have hto:=(HS.s.lts f.d (qB HPF.s)).2.1;have hdue:gD S s.id=if old then 10 else 0:=by rw[hkk,due_at HPF.s hto.1,hold,HFL.s.lost k f HHF.s,<-HFL.s.old HHF.s,HFN.s,HL.s]
   have hr:=HX.s.calm hbx;obtain⟨HR,HKR⟩:=uI hr hkr;have s0:wr.cell? ⟨sb,0,none⟩=some (.int .i64 s.kind):=hr.sk.cell 0;have b1:wr.cell? ⟨fb,1,none⟩=some (.int .i64 f.d.to_):=hkr.cell 1;have HBX:=uT hbx;have c10:=HC10.s wr hbx;clear hkr hr hbr hold hbx;by_cases h11:s.kind=11
   ·have a11:(s.kind==11)=true:=by simpa using h11
    cases old with
    |true=>
     have hdue:gD S s.id=10:=hdue;obtain⟨_,_,_,_,_,_,_,_,_,_,_⟩:=bW HR.s.qk;obtain⟨_,_,_,_,_,_,_,_,_,_,_⟩:=bS HR.s.qk;go_wp2_with fail;refine dC (w:=wr) (t:=(bR 10 0)) HR.s.qk rfl λw9 HO9=> ?_
     replace HO9:=uT HO9;rw[HE.s h11,hdue];exact HR.s.told 10 0 HO9.s
    |false=>
     have hdue:gD S s.id=0:=hdue;go_upto_region 12 with fail;have e10:=λm:Ext wr=>m.cell (HC10.s wr HBX.s)
     have e5:=λm:Ext wr=>m.cell (show wr.cell? ⟨sb,5,none⟩=some (.int .i64 (k:Int))by rw[<-hkk];exact HR.s.sk.cell 5)
     clear s0 b1 c10;refine bO [] [0,1,2,3,4,5,6,7] [] [] 8 [] (by as_aux_lemma=>kernel_rfl) (by as_aux_lemma=>kernel_rfl) (by intro c a d v w h;cases d<;>exact h) ?_;simp only[bB,qJ,qO,qD,qE];refine qF ?_
     repeat(go_big_quiet_step (fail))
     refine qF (qF ?_);clear e10 e5;rintro W1 ⟨nq,hW⟩;have hWB:uR wr W1:=hW▸nq.h;clear hW;simp only[fJ];have h1:=HR.s.calm hWB;obtain⟨g2,o2,f2,hf2,cg,hfc,hfz,_,hlo,_⟩:=h1.pw.flag HPF.s;rw[HC10.s W1 (HBX.s.trans (hWB.mono HBX.s.size))]at cg;injection cg with cg;injection cg with cg1 cg2 cg3;clear cg2 cg3;injection cg1 with cg1;injection cg1 with cg1;subst cg1;have fz:=hfz (k*5+3);have cz:=hfc 3 _ rfl;obtain⟨ow2,h2,_⟩:=hlo.run h1;have H2:=uT h2;clear h1 hfc hfz hlo h2;go_upto_region 13 with fail;generalize W1.setCell ⟨g,k*5+3,none⟩ (.bool true)=w4 at H2⊢;obtain⟨_,_,_,_,_,_,_,_,_,_,_⟩:=bW H2.s.qk;obtain⟨_,_,_,_,_,_,_,_,_,_,_⟩:=bS H2.s.qk;go_wp2_with fail;refine dC (w:=w4) (t:=(bR 0 0)) H2.s.qk rfl λw9 HO9=> ?_
     replace HO9:=uT HO9;rw[HE.s h11,if_pos hdue,hkk];exact H2.s.told 0 0 HO9.s
   ·have h10:s.kind=10:=by omega
    have a11:(s.kind==11)=false:=by simpa using h11
    cases old with
    |true=>
     have hdue:gD S s.id=10:=hdue;obtain⟨_,_,_,_,_,_,_,_,_,_,_⟩:=bW HR.s.qk;obtain⟨_,_,_,_,_,_,_,_,_,_,_⟩:=bS HR.s.qk;go_wp2_with fail;refine dC (w:=wr) (t:=(bR 10 f.d.to_)) HR.s.qk rfl λw9 HO9=> ?_
     replace HO9:=uT HO9;rw[HE2.s h10];unfold fZ;rw[if_neg (by rw[hdue];decide),show S.lts[s.id.toNat]? =some f.d by rw[hkk,qR];exact HPF.s];dsimp only;rw[if_pos (by rw[hdue];decide),hdue];exact HR.s.told 10 f.d.to_ HO9.s
    |false=>
     have hdue:gD S s.id=0:=hdue;have hst:stepW c S s=(⟨0,f.d.to_,Stk.none,0,[],f.d.data,[]⟩,zAt c (S.opened f.d k) f.d):=by rw[HE2.s h10];unfold fZ;rw[if_neg (by rw[hdue];decide),show S.lts[s.id.toNat]? =some f.d by rw[hkk,qR];exact HPF.s];dsimp only;rw[if_neg (by rw[hdue];decide),hkk]
     go_upto_region 16 with fail;have e10:=λm:Ext wr=>m.cell (HC10.s wr HBX.s)
     have e5:=λm:Ext wr=>m.cell (show wr.cell? ⟨sb,5,none⟩=some (.int .i64 (k:Int))by rw[<-hkk];exact HR.s.sk.cell 5)
     clear s0 b1 c10;refine bO [] [0,1,2,3,4,5,6,7] [] [] 8 [] (by as_aux_lemma=>kernel_rfl) (by as_aux_lemma=>kernel_rfl) (by intro c a d v w h;cases d<;>exact h) ?_;simp only[bB,qJ,qO,qD,qE];refine qF ?_
     repeat(go_big_quiet_step (fail))
     refine qF (qF ?_);clear e10 e5;rintro W1 ⟨nq,hW⟩;have hWB:uR wr W1:=hW▸nq.h;clear hW;simp only[fJ];have h1:=HR.s.calm hWB;obtain⟨g2,o2,f2,hf2,cg,hfc,hfz,_,_,hop⟩:=h1.pw.flag HPF.s;rw[HC10.s W1 (HBX.s.trans (hWB.mono HBX.s.size))]at cg;injection cg with cg;injection cg with cg1 cg2 cg3;clear cg2 cg3;injection cg1 with cg1;injection cg1 with cg1;subst cg1;have fz:=hfz (k*5+4);have cz:=hfc 4 _ rfl;obtain⟨ow2,h2,hk2⟩:=(hop (by
      have hd:=hdue;rw[hkk,due_at HPF.s hto.1]at hd
      split at hd
      ·cases hd
      ·rename_i hz;simp only[Bool.or_eq_true,decide_eq_true_eq,not_or]at hz;omega)).run h1
     have hb1x:=HBX.s.trans (hWB.mono HBX.s.size);have ho4:Only (λb=>b=g) W1 (W1.setCell ⟨g,k*5+4,none⟩ (.bool true)):=bJ (Only.refl _ _) _ _;have hgl:=(HROW.s.lt g rfl).2;have hk4:=(HKR.s.below hWB HKR.s.lt).only ho4 (λe=>by have:=HFB.s;omega);have hby:=HBY.s f (qB HHF.s);have hby4:=bL (bI hby.1 hb1x) ho4 (λb hb e=>by
      rcases dV hby.1 HROW.s (by decide)with e1|e1
      ·rw[e1]at hb;cases hb
      ·exact e1 (by rw[hb,e];rfl))
     obtain⟨HD,H2,HB4⟩:=uJ (show Blk _ fb _ _/\ow2 fb= .no from⟨hk4,(hk2.old fb (by have:=HKR.s.lt;have:=hWB.size;omega)).trans HF3.s⟩) h2 hby4;clear h1 hfc hfz hop h2 hk2 hb1x ho4 hgl hk4 hby hby4 HKR HR HBX HB3 HK3 hWB;go_upto_region 17 with fail;generalize W1.setCell ⟨g,k*5+4,none⟩ (.bool true)=w5 at H2 HB4 HD⊢;clear fz cz;obtain⟨i8,hi8,hz8,hs8,hy8⟩:∃i,prog.info? 5=some i/\i.zero=some (.int .u8 0)/\i.size=1/\i.bytes=1:=gB (by kernel_rfl);have HBL:=uT (show f.n<=1000000 by have e1:=(Reads.of_own HB4.s).1;have e2:=HLTL.s f.d (qB HPF.s);rw[qQ]at e1;omega)
     go_cut [8]from 119 to 124 (λs8 W=>∃(tb:Nat) (A:Option Addr) (n cc:Nat),s8= .pointer (some ⟨tb,0,none⟩)/\uS (DlT w5 f.d tb A n cc W))
     case first=>
      have i1:=λm:Ext w5=>m.cell (show w5.cell? ⟨fb,1,none⟩=some (.int .i64 f.d.to_)from HD.s.1.cell 1)
      have i2:=λm:Ext w5=>m.cell (show w5.cell? ⟨fb,2,none⟩=some (.slice f.A f.n f.c)from HD.s.1.cell 2)
      refine fW [0,1,2,3] [4,5,6,7] (.fork (.next 4 (.fork (.next 5 (.next 6 (.next 7 .done))) (.next 6 (.next 5 (.next 7 .done))))) (.next 6 (.next 4 (.next 5 (.next 7 .done))))) (by as_aux_lemma=>kernel_rfl) (by as_aux_lemma=>kernel_rfl) (by intro c a d v w h;cases d<;>exact h) ?_;simp only[bB,qJ,qO,qD,qE]
      repeat(go_big_quiet_step (fail))
      refine qF ?_;clear i1 i2;have hd0:uR w5 w5.drew:=(qC _ w5).drew;generalize w5.drew=wd at hd0⊢;refine zAx ?_ ?_
      ·refine bP λK0 hK0=> ?_
       simp only[bB,qJ,qO,qD,qE];go_wp2_with(first
        |(at_builtin;(refine fL _ rfl (.const (.slice none 0 0)) (.tmp 122) _ rfl wd.heap.size 5 i8 _ 1 1 underlying55 hi8 hz8 hs8 hy8 rfl (by omega) _ 0 _ rfl (qH _ _ _ _) wd.heap.size f.A f.n f.c (f.d.data.map (.int .u8)) rfl (Reads.of_own (bI HB4.s hd0)) (zFn .u8 _) (by have:=HBL.s;unfold maxLen;omega) (by have:=HBL.s;omega) (qA _) ?_);intro v6 w6 hown6 hg6 hat6))
       obtain⟨A,cc,rfl,_⟩:=bE hown6;rw[Nat.zero_add]at hown6⊢;rw[List.nil_append]at hown6;have hb6:uR w5 w6:=hd0.grown hg6 hd0.size (λk hk=>by cases hk);refine hK0 _ w6 (λ_=>⟨⟨_,hb6⟩,rfl⟩) ?_;clear hK0 K0
       repeat' first
        |refine zAx ?_ ?_
        |refine bP λK0 hK0=> ?_
         simp only[bB,qJ,qO,qD,qE];go_wp2_with fail
         first
          |refine hK0 _ w6 (λ_=>⟨⟨_,hb6⟩,rfl⟩) ?_
          |refine hK0 _ (w6.alloc _) (λ_=>⟨⟨_,hb6.alloc hb6.size _⟩,rfl⟩) ?_
         clear hK0 K0
       all_goals
        refine gV ?_;go_wp2_with fail;go_meet;exact⟨w6.heap.size,A,f.n,cc,rfl,uT ⟨hb6.alloc hb6.size _,hb6.size,Blk.new _ _ _,dU (bI hown6 ((qC _ _).alloc (qA _) _)) hd0.size⟩⟩
      ·refine bP λK0 hK0=> ?_
       simp only[bB,qJ,qO,qD,qE];go_wp2_with fail;rw[zAf];obtain⟨tb,htb⟩:=kB wd.heap.size;have kz:Blk (wd.alloc (.cells (bR 0 0).cells.toArray 57)) tb 57 (bR 0 0).cells.toArray:=by rw[htb];exact Blk.new _ _ _
       have hbz:uR w5 (wd.alloc (.cells (bR 0 0).cells.toArray 57)):=hd0.alloc hd0.size _;have htz:w5.heap.size<=tb:=by rw[htb];exact hd0.size
       rw[<-htb];generalize wd.alloc (.cells (bR 0 0).cells.toArray 57)=wz at kz hbz hK0⊢;clear htb hd0 wd;refine hK0 _ wz (λ_=>⟨⟨_,hbz⟩,rfl⟩) ?_;clear hK0 K0;refine bP λK0 hK0=> ?_
       simp only[bB,qJ,qO,qD,qE];go_wp2_with(first
        |(at_builtin;(refine fL _ rfl (.const (.slice none 0 0)) (.tmp 122) _ rfl wz.heap.size 5 i8 _ 1 1 underlying55 hi8 hz8 hs8 hy8 rfl (by omega) _ 0 _ rfl (qH _ _ _ _) wz.heap.size f.A f.n f.c (f.d.data.map (.int .u8)) rfl (Reads.of_own (bI HB4.s hbz)) (zFn .u8 _) (by have:=HBL.s;unfold maxLen;omega) (by have:=HBL.s;omega) (qA _) ?_);intro v6 w6 hown6 hg6 hat6))
       obtain⟨A,cc,rfl,_⟩:=bE hown6;rw[Nat.zero_add]at hown6⊢;rw[List.nil_append]at hown6;have hb6:uR w5 w6:=hbz.grown hg6 hbz.size (λk hk=>by cases hk);have k6:=kz.only ((Only.refl (λ_=>False) wz).grown hg6 λg hg _=>by cases hg) (λe=>e);obtain⟨g0,g1,g2,g3,g4,g5,g6,g7,g8,g9,g10⟩:=bW k6;obtain⟨f0,f1,f2,f3,f4,f5,f6,f7,f8,f9,f10⟩:=bS k6;refine hK0 _ w6 (λ_=>⟨⟨_,hb6⟩,rfl⟩) ?_;clear hK0 K0;refine bP λK0 hK0=> ?_
       simp only[bB,qJ,qO,qD,qE];go_wp2_with fail;refine hK0 _ w6 (λ_=>⟨⟨_,hb6⟩,rfl⟩) ?_;clear hK0 K0;refine bP λK0 hK0=> ?_
       simp only[bB,qJ,qO,qD,qE];go_wp2_with fail;change K0 _ (wrT w6 tb (zBj f.d A f.n cc));have hbe:uR w5 (wrT w6 tb (zBj f.d A f.n cc)):=hb6.trans (Only.to_below (zDr w6 tb _) (λx hx e=>by omega) hb6.size);refine hK0 _ (wrT w6 tb (zBj f.d A f.n cc)) (λ_=>⟨⟨_,hbe⟩,rfl⟩) ?_;clear hK0 K0;refine gV ?_;go_wp2_with fail;go_meet;exact⟨tb,A,f.n,cc,rfl,uT ⟨hbe,htz,zFu k6 rfl _,dU (bL hown6 (zDr w6 tb _) λb hb e=>bC hown6 k6 (by decide) (by rw[hb,e])) hbz.size⟩⟩
     case rest=>
      obtain⟨tb,A,n,cc,rfl,hC⟩:=hcut;have hC:=hC.s;have hD:DT w c y base ow sb qb fb tb s f (zBj f.d A n cc) K (S.opened f.d k) wc ow2:=
       ⟨H2.s.calm hC.bw,hC.td H2.s.kept.only.size H2.s.pw.fresh,HD.s.1.below hC.bw HD.s.1.lt,HD.s.2⟩
      have HBY:=uT (show wc.ownsRow base 5 1 (.slice f.A f.n f.c) f.n (f.d.data.map (.int .u8))from bI HB4.s hC.bw);have HDZ:=uT (HS.s.lts f.d (qB HPF.s)).2.2.1;have HFT:=uT (HS.s.lts f.d (qB HPF.s)).2.2.2;have HFR:=uT (HS.s.lts f.d (qB HPF.s)).1;have HTO:=uT hto;obtain⟨S1,hS1⟩:=kB (S.opened f.d k);rw[<-hS1]at hD hst;obtain⟨HS1,HST,HDD⟩:=uJ hS1 hst hD;have c0:=hD.st.pw.cfgs.1;have b1:wc.cell? ⟨fb,1,none⟩=some (.int .i64 f.d.to_):=hD.fk.cell 1;have b0:wc.cell? ⟨fb,0,none⟩=some (.int .i64 f.d.fr):=hD.fk.cell 0;clear hC H2 HD HB4 hD hst hS1
      go_upto_block 2 with fail
      ·skip
       by_cases hto2:f.d.to_=c.br
       ·have a1:(f.d.to_==c.br)=true:=by simpa using hto2
        have HC:=uT (show zAt c S1 f.d=S1.wants f.d.fr.toNat (dA c f.d.data).1 (dA c f.d.data).1.length by unfold zAt;rw[if_pos hto2])
        go_upto_region 30 with fail;obtain⟨c0,c1,c2,c3,c4⟩:=(HDD.s.st.pw).cfgs;have e0:=λm:Ext wc=>m.cell c0
        have e1:=λm:Ext wc=>m.cell c1
        have e2:=λm:Ext wc=>m.cell c2
        have e3:=λm:Ext wc=>m.cell c3
        have e4:=λm:Ext wc=>m.cell c4
        clear c0 c1 c2 c3 c4;have i2:=λm:Ext wc=>m.cell (show wc.cell? ⟨fb,2,none⟩=some (.slice f.A f.n f.c)from HDD.s.fk.cell 2)
        have hcaps:=fH HBY.s;have hdl:f.d.data.length=f.n:=by have:=(Reads.of_own HBY.s).1;simpa using this
        have HAK:=uT (λW (hW:uR wc W)=>zVn c f.A f.n f.c f.d.data W.heap.size W ((HDD.s.calm hW).st.pw.cfg.more (HDD.s.calm hW).st.pw.bw) hdl hcaps.2.1 hcaps.2.2 (Reads.of_own (bI HBY.s hW)) HDZ.s (qA _));unfold Cfg.val zAj at HAK;clear hcaps hdl c0 b1 b0;refine gT [0,1,2,3,4,5] [6,7] [8,9,10,11] (by as_aux_lemma=>kernel_rfl) (by as_aux_lemma=>kernel_rfl) (by intro c a d v w h;cases d<;>exact h) ?_;simp only[bB,qJ,qO,qD,qE]
        repeat(go_big_quiet_step (fail))
        refine qF ?_;clear e0 e1 e2 e3 e4 i2;have hd0:uR wc wc.drew:=(qC _ _).drew;generalize wc.drew=wd at hd0⊢;simp only[fJ];go_wp2_with fail;refine(HAK.s wd hd0).mono ?_;rintro _ w6 ⟨v6,rfl,ho6,hb6⟩;have hd6:=hd0.trans (hb6.mono hd0.size);obtain⟨A6,c6,rfl,_⟩:=bE ho6;have hD6:=HDD.s.calm hd6;obtain⟨hv6,hlen6⟩:=zFd c f.d.data;have hn6:∀g,(Value.slice A6 (dA c f.d.data).1.length c6).ownBlock=some g->ow2 g= .no:=λg hg=>HDD.s.st.pw.fresh g (qN hd0.size (ho6.lt g hg).1)
        have hb6x:=kB wd.heap.size;obtain⟨B6,hB6⟩:=hb6x;rw[<-hB6]at ho6;obtain⟨HLL,HD6,HO6,HN6,HV6⟩:=uL (show(dA c f.d.data).1.length<=c.m by omega) hD6 ho6 hn6 hv6;have hd6':=hd6;obtain⟨L6,hL6⟩:=kB ((dA c f.d.data).1);rw[<-hL6]at HC HLL HO6 HN6 HV6⊢;obtain⟨n6,hn6'⟩:=kB L6.length;rw[<-hn6']at HC HLL HO6 HN6⊢;have HLN6:=uT hn6';clear hL6 hn6' hv6 hlen6 hn6 hB6 ho6 hD6 hb6 HAK hd0;go_wp2_with fail;refine⟨⟨⟨_,hd6⟩,rfl⟩,?_⟩;go_wp2_with fail;refine⟨⟨⟨_,hd6⟩,rfl⟩,?_⟩
        repeat(go_big_quiet_step (fail))
        refine qF ?_;clear hd6 hd6';obtain⟨frn,hfrn⟩:=qP HFR.s.1;have hfl:frn<c.n:=by have h1:=HFT.s;have h2:=HN.s;have h3:=HFR.s.2;omega
        have hfl':(frn:Int)<(c.n:Int):=by omega
        rw[hfrn,qR]at HC;go_wp2_with fail
        go_loopw [186] (λi W=>∃(q:Nat) (ow':Nat->Tag),q<=n6/\i= .int .i64 q/\uS (DT w c y base ow sb qb fb tb s f (zBj f.d A n cc) K (S1.wants frn L6 q) W ow')/\uS (W.ownsRow B6 3 1 (.slice A6 n6 c6) n6 (L6.map (.int .i64))/\∀g,(Value.slice A6 n6 c6).ownBlock=some g->ow' g= .no)) (λi _=>n6-(intOf i).toNat)
        case atStart=>exact⟨0,ow2,qL _,rfl,by rw[zQm];exact HD6,uT ⟨HO6.s,HN6.s⟩⟩
        case round=>
         obtain⟨q,ow3,hq,rfl,HDq,HRq⟩:=hrel;by_cases hltq:q<n6
         ·have hltq':(q:Int)<(n6:Int):=by omega
          have hqm:q<c.m:=by have:=HLL.s;omega
          have hqm':(q:Int)<(c.m:Int):=by omega
          obtain⟨bl,ol,z,hA6,_,hz,hcz⟩:=dQ (Reads.of_own HRq.s.1) hltq;subst hA6;have hgz:=getD_at hz;have hzb:=HV6.s z (qB hz);have hp:=HDq.s.st.pw;have hbq:(S1.wants frn L6 q).bk q=S1.bk q:=if_neg (Nat.lt_irrefl q);obtain⟨gw,w6c,hwv,hwf,hwt⟩:=hp.wants hqm;have hlw:((S1.wants frn L6 q).bk q).wants.length=c.n:=by rw[hbq,HS1.s];exact(HS.s.bk q).lw
          obtain⟨x,hx⟩:∃x,((S1.wants frn L6 q).bk q).wants[frn]? =some x:=⟨_,qI (by omega)⟩;have hxw:=hwv frn x hx;have l9:=hp.l9;have bq:=hp.bkAt hqm;have b0:wr.cell? ⟨fb,0,none⟩=some (.int .i64 (frn:Int)):=by rw[<-hfrn];exact HDq.s.fk.cell 0
          by_cases hgt:x<z
          ·have d1:decide (z>x)=true:=by simpa using hgt
           obtain⟨HGZ,HX,HLW⟩:=uJ hgz hx hlw;clear hp hbq hwv hwf hwt hx hlw hz hgz;go_wp2_with fail;refine wp_region_quiet_lit (by as_aux_lemma=>kernel_rfl) (by as_aux_lemma=>kernel_rfl) ?_
           repeat(go_big_quiet_step (fail))
           refine qF ?_;rintro _ ⟨nq,rfl⟩;have hbw:=below_drewN (qC wr.heap.size wr) nq;generalize wr.drewN nq=w4 at hbw⊢;go_upto_region 35 with fail;have e9:=λm:Ext w4=>m.cell ((⟨w4,hbw⟩:Ext wr).cell l9)
           have eq:=λm:Ext w4=>m.cell ((⟨w4,hbw⟩:Ext wr).cell bq)
           have e6:=λm:Ext w4=>m.cell ((⟨w4,hbw⟩:Ext wr).cell w6c)
           have e0:=λm:Ext w4=>m.cell ((⟨w4,hbw⟩:Ext wr).cell b0)
           have ez:=λm:Ext w4=>m.cell ((⟨w4,hbw⟩:Ext wr).cell hcz)
           have hw6:=(⟨w4,hbw⟩:Ext wr).cell w6c;clear l9 bq w6c b0 hcz hxw;refine bO [] [0,1,2,3,4,5,6,7,8,9,10,11,12,13,14,15,16] [] [] 17 [] (by as_aux_lemma=>kernel_rfl) (by as_aux_lemma=>kernel_rfl) (by intro c a d v w h;cases d<;>exact h) ?_;simp only[bB,qJ,qO,qD,qE];refine qF ?_
           repeat(go_big_quiet_step (fail))
           refine qF (qF ?_);clear e9 eq e6 e0 ez;rintro W1 ⟨nq,hW⟩;have hWB:uR w4 W1:=hW▸nq.h;clear hW;simp only[fJ];have h1:=(HDq.s.calm hbw).calm hWB;have hb1:=hbw.trans (hWB.mono hbw.size);obtain⟨gw2,cg,hwv,hwf,hwt⟩:=h1.st.pw.wants hqm;rw[(⟨W1,hWB⟩:Ext w4).cell hw6]at cg;injection cg with cg;injection cg with cg1 cg2 cg3;clear cg2 cg3;injection cg1 with cg1;injection cg1 with cg1;subst cg1;have fz:=hwf frn;have cz:=hwv frn x HX.s;obtain⟨ow4,h4,hk4⟩:=(hwt frn z (by rw[HLW.s];exact hfl) (by rw[getD_at HX.s];exact hgt)).runD h1;obtain⟨H4,HR4⟩:=uI (show DT w c y base ow sb qb fb tb s f (zBj f.d A n cc) K (S1.wants frn L6 (q+1)) _ ow4 by rw[zLm,HGZ.s];exact h4) (show _/\_ from⟨hk4.own (bI HRq.s.1 hb1) HRq.s.2,λg hg=>(hk4.old g (jQ (HRq.s.1.lt g hg).2 hb1.size)).trans (HRq.s.2 g hg)⟩);clear hwv hwf hwt h4 hk4 h1 hb1 hWB hbw hw6 HDq;go_wp2_with fail;go_roundw
           case rel=>exact⟨q+1,ow4,by omega,by go_num,H4,HR4⟩
           case measure=>simp[intOf];omega
          ·have d1:decide (z>x)=false:=by simpa using hgt
           have H4:=uT (show DT w c y base ow sb qb fb tb s f (zBj f.d A n cc) K (S1.wants frn L6 (q+1)) wr ow3 by rw[yDi (by rw[<-hbq];exact hx) (by omega)];exact HDq.s);clear hp hbq hwv hwf hwt hx hlw hz hgz;go_wp2_with fail;refine wp_region_quiet_lit (by as_aux_lemma=>kernel_rfl) (by as_aux_lemma=>kernel_rfl) ?_
           repeat(go_big_quiet_step (fail))
           refine qF ?_;rintro _ ⟨nq,rfl⟩;go_wp2_with fail;go_roundw
           case rel=>exact⟨q+1,ow3,by omega,by go_num,uT (H4.s.calm (below_drewN (qC _ _) _)),uT ⟨bI HRq.s.1 (below_drewN (qC _ _) _),HRq.s.2⟩⟩
           case measure=>simp[intOf];omega
         ·obtain rfl:q=n6:=by omega
          go_upto_region 46 with fail;clear hq hltq
          (try clear htl')
          (try clear htl)
          (try clear hton)
          (try clear hfl')
          (try clear hfl)
          (try clear hfrn)
          (try clear a2)
          (try clear hfr2)
          (try clear a1)
          (try clear hto2)
          have HS9:=uT (show StT w c y base ow sb qb s K (zAt c S1 f.d) wr ow3 by rw[HC.s];exact HDq.s.st);have HT9:=uT HDq.s.td;obtain⟨z0,z1,z2,z3,z4,z5,z6,z7,z8,z9,z10⟩:=dM HDq.s.td.tk;unfold zBj Stk.none at z0 z1 z2 z3 z4 z5 z6 z7 z8 z9 z10;dsimp only at z0 z1 z2 z3 z4 z5 z6 z7 z8 z9 z10;obtain⟨_,_,_,_,_,_,_,_,_,_,_⟩:=bW HS9.s.qk;obtain⟨_,_,_,_,_,_,_,_,_,_,_⟩:=bS HS9.s.qk;go_wp2_with fail;refine dC (w:=wr) (t:=(zBj f.d A n cc)) HS9.s.qk rfl λw9 HO9=> ?_
          replace HO9:=uT HO9;rw[HST.s];exact HS9.s.fin HT9.s.own HT9.s.no HO9.s
       ·have a1:(f.d.to_==c.br)=false:=by simpa using hto2
        obtain⟨ton,hton⟩:=qP HTO.s.1;have htl:ton<c.n:=by have h2:=HN.s;have h3:=HTO.s.2;omega
        have htl':(ton:Int)<(c.n:Int):=by omega
        by_cases hfr2:f.d.fr=c.br
        ·have a2:(f.d.fr==c.br)=true:=by simpa using hfr2
         have HC:=uT (show zAt c S1 f.d=dH ton (dA c f.d.data).1 (dA c f.d.data).1.length S1 by unfold zAt;rw[if_neg hto2,if_pos hfr2,hton,qR])
         go_upto_region 38 with fail;obtain⟨c0,c1,c2,c3,c4⟩:=(HDD.s.st.pw).cfgs;have e0:=λm:Ext wc=>m.cell c0
         have e1:=λm:Ext wc=>m.cell c1
         have e2:=λm:Ext wc=>m.cell c2
         have e3:=λm:Ext wc=>m.cell c3
         have e4:=λm:Ext wc=>m.cell c4
         clear c0 c1 c2 c3 c4;have i2:=λm:Ext wc=>m.cell (show wc.cell? ⟨fb,2,none⟩=some (.slice f.A f.n f.c)from HDD.s.fk.cell 2)
         have hcaps:=fH HBY.s;have hdl:f.d.data.length=f.n:=by have:=(Reads.of_own HBY.s).1;simpa using this
         have HAK:=uT (λW (hW:uR wc W)=>zVn c f.A f.n f.c f.d.data W.heap.size W ((HDD.s.calm hW).st.pw.cfg.more (HDD.s.calm hW).st.pw.bw) hdl hcaps.2.1 hcaps.2.2 (Reads.of_own (bI HBY.s hW)) HDZ.s (qA _));unfold Cfg.val zAj at HAK;clear hcaps hdl c0 b1 b0;refine gT [0,1,2,3,4,5] [6,7] [8,9,10,11] (by as_aux_lemma=>kernel_rfl) (by as_aux_lemma=>kernel_rfl) (by intro c a d v w h;cases d<;>exact h) ?_;simp only[bB,qJ,qO,qD,qE]
         repeat(go_big_quiet_step (fail))
         refine qF ?_;clear e0 e1 e2 e3 e4 i2;have hd0:uR wc wc.drew:=(qC _ _).drew;generalize wc.drew=wd at hd0⊢;simp only[fJ];go_wp2_with fail;refine(HAK.s wd hd0).mono ?_;rintro _ w6 ⟨v6,rfl,ho6,hb6⟩;have hd6:=hd0.trans (hb6.mono hd0.size);obtain⟨A6,c6,rfl,_⟩:=bE ho6;have hD6:=HDD.s.calm hd6;obtain⟨hv6,hlen6⟩:=zFd c f.d.data;have hn6:∀g,(Value.slice A6 (dA c f.d.data).1.length c6).ownBlock=some g->ow2 g= .no:=λg hg=>HDD.s.st.pw.fresh g (qN hd0.size (ho6.lt g hg).1)
         have hb6x:=kB wd.heap.size;obtain⟨B6,hB6⟩:=hb6x;rw[<-hB6]at ho6;obtain⟨HLL,HD6,HO6,HN6,HV6⟩:=uL (show(dA c f.d.data).1.length<=c.m by omega) hD6 ho6 hn6 hv6;have hd6':=hd6;obtain⟨L6,hL6⟩:=kB ((dA c f.d.data).1);rw[<-hL6]at HC HLL HO6 HN6 HV6⊢;obtain⟨n6,hn6'⟩:=kB L6.length;rw[<-hn6']at HC HLL HO6 HN6⊢;have HLN6:=uT hn6';clear hL6 hn6' hv6 hlen6 hn6 hB6 ho6 hD6 hb6 HAK hd0;go_wp2_with fail;refine⟨⟨⟨_,hd6⟩,rfl⟩,?_⟩;go_wp2_with fail;refine⟨⟨⟨_,hd6⟩,rfl⟩,?_⟩
         repeat(go_big_quiet_step (fail))
         refine qF ?_;clear hd6 hd6';have HGO:=uT (λk=>zLo ton L6 HV6.s (show S1.ok c N by rw[HS1.s];exact{HS.s with}) k);go_wp2_with fail
         go_loopw [243] (λi W=>∃(q:Nat) (ow':Nat->Tag),q<=n6/\i= .int .i64 q/\uS (DT w c y base ow sb qb fb tb s f (zBj f.d A n cc) K (dH ton L6 q S1) W ow')/\uS (W.ownsRow B6 3 1 (.slice A6 n6 c6) n6 (L6.map (.int .i64))/\∀g,(Value.slice A6 n6 c6).ownBlock=some g->ow' g= .no)) (λi _=>n6-(intOf i).toNat)
         case atStart=>exact⟨0,ow2,qL _,rfl,HD6,uT ⟨HO6.s,HN6.s⟩⟩
         case round=>
          obtain⟨q,ow3,hq,rfl,HDq,HRq⟩:=hrel;by_cases hltq:q<n6
          ·have hltq':(q:Int)<(n6:Int):=by omega
           have hqm:q<c.m:=by have:=HLL.s;omega
           have hqm':(q:Int)<(c.m:Int):=by omega
           obtain⟨bl,ol,z,hA6,_,hz,hcz⟩:=dQ (Reads.of_own HRq.s.1) hltq;subst hA6;have hgz:=getD_at hz;have hzb:=HV6.s z (qB hz);have hp:=HDq.s.st.pw;have hok:=(HGO.s q).1;have hkg:q<((dH ton L6 q S1).gn ton).length:=by rw[(hok.gn ton).1];omega
           obtain⟨x,hx⟩:∃x,((dH ton L6 q S1).gn ton)[q]? =some x:=⟨_,qI hkg⟩;have hxb:=(hok.gn ton).2 x (qB hx);have hg:=hp.pc (.gn ton) htl;have l7:=hp.l7;have gq:=hp.gnAt htl;have gx:=hg.row.cell hx;have b1:wr.cell? ⟨fb,1,none⟩=some (.int .i64 (ton:Int)):=by rw[<-hton];exact HDq.s.fk.cell 1
           have HGN:=uT (show dH ton L6 (q+1) S1=if x<z then{dH ton L6 q S1 with sh:=bN (dH ton L6 q S1).sh ton (bN ((dH ton L6 q S1).sh ton) q (((dH ton L6 q S1).sh ton q).does ⟨1,z-x,0,0⟩).1),gn:=bN (dH ton L6 q S1).gn ton (((dH ton L6 q S1).gn ton).set q z)}else dH ton L6 q S1 by rw[dH,gnAt,hgz,getD_at hx])
           by_cases hgt:x<z
           ·have d1:decide (z>x)=true:=by simpa using hgt
            obtain⟨HKG,HGZ,HXG⟩:=uJ hkg hgz hx;have l5:=hp.l5;have rq:=hp.rackAt htl;have HDO:=uT (λW (hW:uR wr W)=>zNf ⟨1,z-x,0,0⟩ ton q (hp.calm hW) htl hqm N ((HGO.s q).2 ton q (Or.inr (qA _))) (by omega) (qA K) (zYd ⟨1,z-x,0,0⟩ (show(1:Int)≠3 by decide)));unfold Ordr.val at HDO;dsimp only at HDO;clear hp hok hkg hx hg hz hgz;go_wp2_with fail;refine wp_region_quiet_lit (by as_aux_lemma=>kernel_rfl) (by as_aux_lemma=>kernel_rfl) ?_
            repeat(go_big_quiet_step (fail))
            refine qF ?_;rintro _ ⟨nq,rfl⟩;have hbw:=below_drewN (qC wr.heap.size wr) nq;generalize wr.drewN nq=w4 at hbw⊢;go_upto_region 43 with fail;have e1:=λm:Ext w4=>m.cell ((⟨w4,hbw⟩:Ext wr).cell l5)
            have e2:=λm:Ext w4=>m.cell ((⟨w4,hbw⟩:Ext wr).cell rq)
            have e3:=λm:Ext w4=>m.cell ((⟨w4,hbw⟩:Ext wr).cell b1)
            have e4:=λm:Ext w4=>m.cell ((⟨w4,hbw⟩:Ext wr).cell hcz)
            have e5:=λm:Ext w4=>m.cell ((⟨w4,hbw⟩:Ext wr).cell l7)
            have e6:=λm:Ext w4=>m.cell ((⟨w4,hbw⟩:Ext wr).cell gq)
            have e7:=λm:Ext w4=>m.cell ((⟨w4,hbw⟩:Ext wr).cell gx)
            clear l7 gq gx b1 hcz l5 rq;refine bO [] [0,1,2,3,4,5,6,7,8,9,10,11,12,13,14,15,16,17,18,19,20,21,22,23,24,25,26] [] [] 27 [] (by as_aux_lemma=>kernel_rfl) (by as_aux_lemma=>kernel_rfl) (by intro c a d v w h;cases d<;>exact h) ?_;simp only[bB,qJ,qO,qD,qE];refine qF ?_
            repeat(go_big_quiet_step (fail))
            refine qF (qF ?_);clear e1 e2 e3 e4 e5 e6 e7;rintro W1 ⟨nq,hW⟩;have hWB:uR w4 W1:=hW▸nq.h;clear hW;simp only[fJ];have h1:=(HDq.s.calm hbw).calm hWB;have hb1:=hbw.trans (hWB.mono hbw.size);go_wp2_with fail;refine(HDO.s W1 hb1).mono ?_;rintro _ w5 ⟨rfl,ow4,hp4,hk4⟩;have h5:=h1.turn hp4 hk4;have hr5:=hk4.own (bI HRq.s.1 hb1) HRq.s.2;have hn5:∀g,(Value.slice (some ⟨bl,ol,none⟩) n6 c6).ownBlock=some g->ow4 g= .no:=λg hg=>(hk4.old g (jQ (HRq.s.1.lt g hg).2 hb1.size)).trans (HRq.s.2 g hg)
            obtain⟨H5,HR5⟩:=uI h5 (And.intro hr5 hn5);clear h1 hb1 hWB hbw HDO hp4 hk4 HDq HRq;go_upto_region 44 with fail;obtain⟨b',o',z',hA',_,hz',hcz⟩:=dQ (Reads.of_own hr5) hltq;injection hA' with hA';injection hA' with hA1 hA2;subst hA1 hA2;have hzz:z'=z:=by have e1:=getD_at hz';rw[HGZ.s]at e1;exact e1.symm
            subst hzz;have hp:=h5.st.pw;have e3:=λm:Ext w5=>m.cell (show w5.cell? ⟨fb,1,none⟩=some (.int .i64 (ton:Int))by rw[<-hton];exact h5.fk.cell 1)
            have e4:=λm:Ext w5=>m.cell hcz
            have e5:=λm:Ext w5=>m.cell hp.l7
            have e6:=λm:Ext w5=>m.cell (hp.gnAt htl)
            clear hr5 hn5 h5 hp hz' hcz;refine bO [] [0,1,2,3,4,5,6,7,8,9,10,11,12,13] [] [] 14 [] (by as_aux_lemma=>kernel_rfl) (by as_aux_lemma=>kernel_rfl) (by intro c a d v w h;cases d<;>exact h) ?_;simp only[bB,qJ,qO,qD,qE];refine qF ?_
            repeat(go_big_quiet_step (fail))
            refine qF (qF ?_);clear e3 e4 e5 e6;rintro W1 ⟨nq,hW⟩;have hWB:uR w5 W1:=hW▸nq.h;clear hW;simp only[fJ];have h1:=H5.s.calm hWB;have hg1:=h1.st.pw.pc (.gn ton) htl;have fz:=hg1.row.frozen q;have cz:=hg1.row.cell HXG.s;obtain⟨ow7,h7,hk7⟩:=(h1.st.pw.setGn htl HKG.s z').runD h1;obtain⟨H7,HR7⟩:=uI (show DT w c y base ow sb qb fb tb s f (zBj f.d A n cc) K (dH ton L6 (q+1) S1) _ ow7 by rw[HGN.s,if_pos hgt];exact h7) (show _/\_ from⟨hk7.own (bI HR5.s.1 hWB) HR5.s.2,λg hg=>(hk7.old g (jQ (HR5.s.1.lt g hg).2 hWB.size)).trans (HR5.s.2 g hg)⟩);clear hg1 h7 hk7 h1 hWB H5 HR5;go_wp2_with fail;go_roundw
            case rel=>exact⟨q+1,ow7,by omega,by go_num,H7,HR7⟩
            case measure=>simp[intOf];omega
           ·have d1:decide (z>x)=false:=by simpa using hgt
            have H4:=uT (show DT w c y base ow sb qb fb tb s f (zBj f.d A n cc) K (dH ton L6 (q+1) S1) wr ow3 by rw[HGN.s,if_neg hgt];exact HDq.s);clear hp hok hkg hx hg hz hgz;go_wp2_with fail;refine wp_region_quiet_lit (by as_aux_lemma=>kernel_rfl) (by as_aux_lemma=>kernel_rfl) ?_
            repeat(go_big_quiet_step (fail))
            refine qF ?_;rintro _ ⟨nq,rfl⟩;go_wp2_with fail;go_roundw
            case rel=>exact⟨q+1,ow3,by omega,by go_num,uT (H4.s.calm (below_drewN (qC _ _) _)),uT ⟨bI HRq.s.1 (below_drewN (qC _ _) _),HRq.s.2⟩⟩
            case measure=>simp[intOf];omega
          ·obtain rfl:q=n6:=by omega
           go_upto_region 46 with fail;clear hq hltq
           (try clear htl')
           (try clear htl)
           (try clear hton)
           (try clear hfl')
           (try clear hfl)
           (try clear hfrn)
           (try clear a2)
           (try clear hfr2)
           (try clear a1)
           (try clear hto2)
           have HS9:=uT (show StT w c y base ow sb qb s K (zAt c S1 f.d) wr ow3 by rw[HC.s];exact HDq.s.st);have HT9:=uT HDq.s.td;obtain⟨z0,z1,z2,z3,z4,z5,z6,z7,z8,z9,z10⟩:=dM HDq.s.td.tk;unfold zBj Stk.none at z0 z1 z2 z3 z4 z5 z6 z7 z8 z9 z10;dsimp only at z0 z1 z2 z3 z4 z5 z6 z7 z8 z9 z10;obtain⟨_,_,_,_,_,_,_,_,_,_,_⟩:=bW HS9.s.qk;obtain⟨_,_,_,_,_,_,_,_,_,_,_⟩:=bS HS9.s.qk;go_wp2_with fail;refine dC (w:=wr) (t:=(zBj f.d A n cc)) HS9.s.qk rfl λw9 HO9=> ?_
           replace HO9:=uT HO9;rw[HST.s];exact HS9.s.fin HT9.s.own HT9.s.no HO9.s
        ·have a2:(f.d.fr==c.br)=false:=by simpa using hfr2
         obtain⟨R,hR⟩:=kB ((dI c f.d.fr f.d.to_ f.d.data).1);have HC:=uT (show zAt c S1 f.d=S1.learns ton R R.length by unfold zAt;rw[if_neg hto2,if_neg hfr2,<-hR,hton,qR])
         have hfl:f.d.fr<(c.n:Int):=by have h2:=HN.s;have h3:=HFR.s.2;omega
         have HGR:uS (GoodR c R/\timeOk K R):=uT (by obtain⟨R0,h1,_,h3⟩:=HGW.s.tells HDD.s.st.pw.may (qB HPF.s) ⟨HFR.s.1,hfl⟩ ⟨HTO.s.1,by omega⟩;rw[hR,h3];exact zPs h1)
         go_upto_region 19 with fail;have hcaps:=fH HBY.s;have hdl:f.d.data.length=f.n:=by have:=(Reads.of_own HBY.s).1;simpa using this
         have HAK:=uT (λW (hW:uR wc W)=>zXs c f.d.fr f.d.to_ f.A f.n f.c f.d.data W.heap.size W ((HDD.s.calm hW).st.pw.cfg.more (HDD.s.calm hW).st.pw.bw) (qA _) hdl hcaps.2.1 hcaps.2.2 (Reads.of_own (bI HBY.s hW)) HDZ.s);unfold Cfg.val zDg at HAK;rw[<-hR]at HAK;obtain⟨rc,hrc⟩:=kB ((dI c f.d.fr f.d.to_ f.d.data).2);rw[<-hrc,hton]at HAK;obtain⟨c0,c1,c2,c3,c4⟩:=(HDD.s.st.pw).cfgs;have e0:=λm:Ext wc=>m.cell c0
         have e1:=λm:Ext wc=>m.cell c1
         have e2:=λm:Ext wc=>m.cell c2
         have e3:=λm:Ext wc=>m.cell c3
         have e4:=λm:Ext wc=>m.cell c4
         clear c0 c1 c2 c3 c4;have i0:=λm:Ext wc=>m.cell (show wc.cell? ⟨fb,0,none⟩=some (.int .i64 f.d.fr)from HDD.s.fk.cell 0)
         have i1:=λm:Ext wc=>m.cell (show wc.cell? ⟨fb,1,none⟩=some (.int .i64 f.d.to_)from HDD.s.fk.cell 1)
         have i2:=λm:Ext wc=>m.cell (show wc.cell? ⟨fb,2,none⟩=some (.slice f.A f.n f.c)from HDD.s.fk.cell 2)
         have HR:=uT hR;clear hcaps hdl c0 b1 b0 hrc hR;refine gT [0,1,2,3,4,5,6,7,8,9] [10,11] [12,13,14,15] (by as_aux_lemma=>kernel_rfl) (by as_aux_lemma=>kernel_rfl) (by intro c a d v w h;cases d<;>exact h) ?_;simp only[bB,qJ,qO,qD,qE]
         repeat(go_big_quiet_step (fail))
         refine qF ?_;clear e0 e1 e2 e3 e4 i0 i1 i2;have hd0:uR wc wc.drew:=(qC _ _).drew;generalize wc.drew=wd at hd0⊢;simp only[fJ];go_wp2_with fail;refine(HAK.s wd hd0).mono ?_;rintro _ w6 ⟨t6,rfl,hte,htr,hb6,htm⟩;have hd6:=hd0.trans (hb6.mono hd0.size);have HD6:=uT (HDD.s.calm hd6);have hfr6:∀k,wd.heap.size<=k->ow2 k= .no:=λk hk=>HDD.s.st.pw.fresh k (qN hd0.size hk)
         have HT6:uS (TabAt t6 w6 ow2):=uT ⟨wd.heap.size,htm,λg e hne=>by
          rcases htm.1 with h|⟨g',g1,g2,g3⟩
          ·exact absurd h hne
          ·rw[e]at g2;cases g2;exact hfr6 _ g1,λr hr k hk=>hfr6 k ((htm.2 r hr).lt k hk).1⟩
         obtain⟨HTE,HRL⟩:=uI hte (show R.length<=c.ln by have h1:=HGR.s.1.1;omega);obtain⟨n6,hn6⟩:=kB t6.rs.length;have hnR:R.length=n6:=by rw[<-hte,hn6];unfold TabR.es;rw[qQ]
         rw[hnR]at HC HRL;have HN6:=uT hn6;unfold TabR.val;rw[<-hn6];clear hte htr hb6 htm hfr6 hn6 hnR HAK hd0;go_wp2_with fail;refine⟨⟨⟨_,hd6⟩,rfl⟩,?_⟩;go_wp2_with fail;refine⟨⟨⟨_,hd6⟩,rfl⟩,?_⟩
         repeat(go_big_quiet_step (fail))
         refine qF ?_;clear hd6;go_wp2_with fail
         go_loopw [146] (λi W=>∃(q:Nat) (ow':Nat->Tag),q<=n6/\i= .int .i64 q/\uS (DT w c y base ow sb qb fb tb s f (zBj f.d A n cc) K (S1.learns ton R q) W ow')/\uS (TabAt t6 W ow')) (λi _=>n6-(intOf i).toNat)
         case atStart=>exact⟨0,ow2,qL _,rfl,by rw[zPe];exact HD6,HT6⟩
         case round=>
          obtain⟨q,ow3,hq,rfl,HDq,HTq⟩:=hrel;by_cases hltq:q<n6
          ·have hltq':(q:Int)<(n6:Int):=by omega
           have hqm:q<c.ln:=by have:=HRL.s;omega
           have hq4:q<4:=by have:=HLN.s;omega
           obtain⟨B7,htm,_⟩:=HTq.s;obtain⟨r,hr⟩:∃r,t6.rs[q]? =some r:=⟨_,qI (by rw[<-HN6.s];exact hltq)⟩;obtain⟨g5,hA5,hblk⟩:∃g,t6.A=some ⟨g,0,none⟩/\Blk wr g 103 (t6.rs.map EnR.val).toArray:=by
            rcases htm.1 with h|⟨g,_,h1,h2⟩
            ·rw[h]at hr;cases hr
            ·exact⟨g,h1,h2⟩
           have x0:wr.cell? ⟨g5,q,none⟩=some (.slice r.A r.es.length r.c):=(hblk.cell q).trans (by rw[jH,qV,hr];rfl);have hrR:R.getD q []=r.es:=by rw[<-HTE.s];unfold TabR.es;rw[qG,qV,hr];rfl
           have hrm:r.es∈R:=by rw[<-HTE.s];exact List.mem_map_of_mem (qB hr)
           have hmay:=HGR.s.1.2.1 _ hrm;have hent:=ent_ok hmay (HGR.s.1.2.2 _ hrm) (HGR.s.2 _ hrm);have hkey:∀e∈r.es,0<=e.key:=λe he=>(zFz ((gX hmay).2.2.2 e he)).1.1
           have hlen8:r.es.length<=8:=(gX hmay).2.2.1;have hstl:((S1.learns ton R q).st ton).length=c.ln:=by show List.length (bN _ _ _ _)=_;rw[dD,(zKn R q (S1.st ton) 0).1,HS1.s];exact(HS.s.st ton).1
           have HRM:=uT (qB hr);have HLS:=uT (show zDt (S1.learns ton R q) ton q r.es r.es.length=S1.learns ton R (q+1)by rw[zPn _ _ _ _ r.es hrR];unfold zDt;rw[List.take_length])
           obtain⟨HL0,HLK,HEN⟩:=uJ (yDt (es:=r.es) HDq.s.st.pw htl hqm hstl hK) (λ(j:Nat) (e:Ent) (he:r.es[j]? =some e)=>yDq HDq.s.st.pw htl hqm hstl hK hmay hent he) (And.intro hmay (And.intro hent hkey));obtain⟨n7,hn7⟩:=kB r.es.length;rw[<-hn7]at x0 hlen8 HLS;have HN7:=uT hn7;rw[hA5];clear hblk hr hrR hrm hmay hent hkey hstl htm hn7;go_wp2_with fail
           go_loopw [154] (λi W=>∃(j:Nat) (ow':Nat->Tag),j<=n7/\i= .int .i64 j/\uS (DT w c y base ow sb qb fb tb s f (zBj f.d A n cc) K (zDt (S1.learns ton R q) ton q r.es j) W ow')/\uS (TabAt t6 W ow')) (λi _=>n7-(intOf i).toNat)
           case atStart=>exact⟨0,ow3,qL _,rfl,by rw[HL0.s];exact HDq,HTq⟩
           case round=>
            obtain⟨j2,ow4,hj,rfl,HDj,HTj⟩:=hrel;clear x0;by_cases hltj:j2<n7
            ·have hltj':(j2:Int)<(n7:Int):=by omega
             obtain⟨B8,htm8,_⟩:=HTj.s;obtain⟨bl,ol,e,hAr,_,he,hec⟩:=fB cN (by omega) (Reads.of_own (htm8.2 r HRM.s)) (k:=j2) (by rw[<-HN7.s];exact hltj) rfl;have d0:wr.cell? ⟨bl,ol+j2*5,none⟩=some (.int .i64 e.key):=hec 0 _ rfl;have d1:=hec 1 _ rfl;have d2:=hec 2 _ rfl;have d3:=hec 3 _ rfl;have d4:=hec 4 _ rfl;rw[hAr];obtain⟨HE8,HEN8⟩:=uI he (show bU [e]=true/\(e.key<8/\EntOk K e)/\0<=e.key from⟨zNi _ none j2 e (by have h1:=HEN.s.1;unfold bU at h1;rw[qT]at h1;exact h1.1) he,HEN.s.2.1 e (qB he),HEN.s.2.2 e (qB he)⟩);clear htm8 he hec;go_upto_region 26 with fail;rw[show(#[.int .i64 e.key,.int .i64 e.value,.int .i64 e.time,.int .i64 e.who,.bool e.gone]:Array Value)=(bD e).toArray from rfl];have hbw:uR wr (wr.alloc (.cells (bD e).toArray 125)):=(qC _ _).alloc (qA _) _;obtain⟨eb,heb⟩:=kB wr.heap.size;have k4:Blk (wr.alloc (.cells (bD e).toArray 125)) eb 125 (bD e).toArray:=by rw[heb];exact Blk.new _ _ _
             rw[<-heb];generalize wr.alloc (.cells (bD e).toArray 125)=w4 at hbw k4⊢;have hD4:=HDj.s.calm hbw;obtain⟨v8,hb8⟩:=hD4.st.pw.land;have e1:=λm:Ext w4=>m.cell (show w4.cell? ⟨y.hb,8,none⟩=some (.pointer (some ⟨y.sb,0,none⟩))from hb8.cell 8)
             have e2:=λm:Ext w4=>m.cell (show w4.cell? ⟨fb,1,none⟩=some (.int .i64 (ton:Int))by rw[<-hton];exact hD4.fk.cell 1)
             have e3:=λm:Ext w4=>m.cell (show w4.cell? ⟨eb,0,none⟩=some (.int .i64 e.key)from k4.cell 0)
             have e4:=λm:Ext w4=>m.cell (show w4.cell? ⟨eb,1,none⟩=some (.int .i64 e.value)from k4.cell 1)
             have e5:=λm:Ext w4=>m.cell (show w4.cell? ⟨eb,2,none⟩=some (.int .i64 e.time)from k4.cell 2)
             have e6:=λm:Ext w4=>m.cell (show w4.cell? ⟨eb,3,none⟩=some (.int .i64 e.who)from k4.cell 3)
             have e7:=λm:Ext w4=>m.cell (show w4.cell? ⟨eb,4,none⟩=some (.bool e.gone)from k4.cell 4)
             have HLW:=uT (λW (hW:uR w4 W)=>zWv (hD4.calm hW).st.pw ton q e htl hqm HEN8.s.1 HEN8.s.2.1 HEN8.s.2.2 hK);unfold zCe at HLW;have HBW:=uT hbw;clear hb8 k4 heb hD4 hbw d0 d1 d2 d3 d4;refine bO [] [0,1,2,3,4,5,6,7] [] [] 8 [] (by as_aux_lemma=>kernel_rfl) (by as_aux_lemma=>kernel_rfl) (by intro c a d v w h;cases d<;>exact h) ?_;simp only[bB,qJ,qO,qD,qE];refine qF ?_
             repeat(go_big_quiet_step (fail))
             refine qF (qF ?_);clear e1 e2 e3 e4 e5 e6 e7;rintro W1 ⟨nq,hW⟩;have hWB:uR w4 W1:=hW▸nq.h;clear hW;simp only[fJ];go_wp2_with fail;refine(HLW.s W1 hWB).mono ?_;rintro _ w5 ⟨rfl,ow5,hp5,hk5⟩;have hkk:=(Kept.calm (ow:=ow4) (HBW.s.trans (hWB.mono HBW.s.size))).trans hk5;obtain⟨H5,HT5⟩:=uI (show DT w c y base ow sb qb fb tb s f (zBj f.d A n cc) K (zDt (S1.learns ton R q) ton q r.es (j2+1)) w5 ow5 by rw[<-HLK.s j2 e HE8.s];exact HDj.s.turn hp5 hkk) (HTj.s.turn hkk);clear hp5 hk5 hkk hWB;go_wp2_with fail;go_roundw
             case rel=>exact⟨j2+1,ow5,by omega,by go_num,H5,HT5⟩
             case measure=>simp[intOf];omega
            ·obtain rfl:j2=n7:=by omega
             go_wp2_with fail;go_roundw
             case rel=>exact⟨q+1,ow4,by omega,by go_num,by rw[<-HLS.s];exact HDj,HTj⟩
             case measure=>simp[intOf];omega
          ·obtain rfl:q=n6:=by omega
           go_upto_region 46 with fail;clear hq hltq
           (try clear htl')
           (try clear htl)
           (try clear hton)
           (try clear hfl')
           (try clear hfl)
           (try clear hfrn)
           (try clear a2)
           (try clear hfr2)
           (try clear a1)
           (try clear hto2)
           have HS9:=uT (show StT w c y base ow sb qb s K (zAt c S1 f.d) wr ow3 by rw[HC.s];exact HDq.s.st);have HT9:=uT HDq.s.td;obtain⟨z0,z1,z2,z3,z4,z5,z6,z7,z8,z9,z10⟩:=dM HDq.s.td.tk;unfold zBj Stk.none at z0 z1 z2 z3 z4 z5 z6 z7 z8 z9 z10;dsimp only at z0 z1 z2 z3 z4 z5 z6 z7 z8 z9 z10;obtain⟨_,_,_,_,_,_,_,_,_,_,_⟩:=bW HS9.s.qk;obtain⟨_,_,_,_,_,_,_,_,_,_,_⟩:=bS HS9.s.qk;go_wp2_with fail;refine dC (w:=wr) (t:=(zBj f.d A n cc)) HS9.s.qk rfl λw9 HO9=> ?_
           replace HO9:=uT HO9;rw[HST.s];exact HS9.s.fin HT9.s.own HT9.s.no HO9.s
end
def zBc(code who:Int)(stk:Stk)(v:Int):Tol:=⟨⟨code,who,stk,v,[],[],[]⟩,none,0,0,none,0,0,none,0,0⟩
theorem StepR.more{w w':World}{c:Cfg}{y:fD}{K L base:Nat}{ow:Nat->Tag}{r:zCl×WS}{e:Ending}(hL:K<=L)(h:StepR w c y K base ow r e w'):StepR w c y L base ow r e w':=by obtain⟨t,h1,h2,h3,ow',h4,h5⟩:=h;exact⟨t,h1,h2,h3,ow',h4.more hL,h5⟩
structure CT(w:World)(c:Cfg)(y:fD)(base:Nat)(ow:Nat->Tag)(sb qb tb:Nat)(s:StpI)(code who:Int)(stk:Stk)(v:Int)(K:Nat)(S:WS)(W:World)(ow1:Nat->Tag):Prop where
 st:StT w c y base ow sb qb s K S W ow1
 tk:Blk W tb 57 (zBc code who stk v).cells.toArray
 tn:ow1 tb= .no
 tl:w.heap.size<=tb
 ne:tb≠qb
section
variable {w W W':World}{c:Cfg}{y:fD}{S S':WS}{K K' base sb qb tb:Nat}{ow ow1 ow2:Nat->Tag}{s:StpI}{a a' who v v':Int}{k k':Stk}
theorem CT.turn(h:CT w c y base ow sb qb tb s a who k v K S W ow1)(hp:RW W' c y S' K' base ow2)(hk:Kept W W' ow1 ow2):CT w c y base ow sb qb tb s a who k v K' S' W' ow2:=
 ⟨h.st.turn hp hk,hk.blk h.tk h.tn,(hk.old tb h.tk.lt).trans h.tn,h.tl,h.ne⟩
theorem CT.calm(h:CT w c y base ow sb qb tb s a who k v K S W ow1)(hb:uR W W'):CT w c y base ow sb qb tb s a who k v K S W' ow1:=h.turn (h.st.pw.calm hb) (Kept.calm hb)
theorem TurnR.runC{S2:WS}(h:TurnR W c y S2 K' base ow1 W')(hs:CT w c y base ow sb qb tb s a who k v K S W ow1):∃ow2,CT w c y base ow sb qb tb s a who k v K' S2 W' ow2/\Kept W W' ow1 ow2:=by obtain⟨ow2,h1,h2⟩:=h;exact⟨ow2,hs.turn h1 h2,h2⟩
theorem CT.put(h:CT w c y base ow sb qb tb s a who k v K S W ow1)(ho:Only (λb=>b=tb) W W')(hk:Blk W' tb 57 (zBc a' who k' v').cells.toArray):CT w c y base ow sb qb tb s a' who k' v' K S W' ow1:=by
 have hD:∀b,b<W.heap.size->b=tb->ow1 b= .no:=λb _ e=>by rw[e];exact h.tn
 have hp:=h.st.pw.far ho hD (λb hb e=>by have:=h.tl;have:=h.st.bw;omega);refine⟨⟨hp,⟨h.st.kept.only.trans ho (λx hx e=>by have:=h.tl;omega),h.st.kept.old⟩,h.st.sk.only ho (λe=> ?_),h.st.qk.only ho (λe=>h.ne e.symm),h.st.sn,h.st.qn,h.st.ql,h.st.bw⟩,hk,h.tn,h.tl,h.ne⟩;exact Blk.ne_ h.st.sk h.tk (by decide) e
theorem CT.code(h:CT w c y base ow sb qb tb s a who k v K S W ow1)(z:Int):CT w c y base ow sb qb tb s z who k v K S (W.setCell ⟨tb,0,none⟩ (.int .i64 z)) ow1:=h.put (bJ (Only.refl _ _) _ _) (h.tk.set_ 0 _)
theorem CT.value(h:CT w c y base ow sb qb tb s a who k v K S W ow1)(z:Int):CT w c y base ow sb qb tb s a who k z K S (W.setCell ⟨tb,7,none⟩ (.int .i64 z)) ow1:=h.put (bJ (Only.refl _ _) _ _) (h.tk.set_ 7 _)
theorem CT.scode(h:CT w c y base ow sb qb tb s a who k v K S W ow1)(z:Int):CT w c y base ow sb qb tb s a who {k with code:=z} v K S (W.setCell ⟨tb,2,none⟩ (.int .i64 z)) ow1:=h.put (bJ (Only.refl _ _) _ _) (h.tk.set_ 2 _)
def wrS(W:World)(b:Nat)(k:Stk):World:=((((W.setCell ⟨b,2,none⟩ (.int .i64 k.code)).setCell ⟨b,3,none⟩ (.int .i64 k.id)).setCell ⟨b,4,none⟩ (.int .i64 k.free)).setCell ⟨b,5,none⟩ (.int .i64 k.held)).setCell ⟨b,6,none⟩ (.int .i64 k.used)
theorem CT.stock(h:CT w c y base ow sb qb tb s a who k v K S W ow1)(z:Stk):CT w c y base ow sb qb tb s a who z v K S (wrS W tb z) ow1:=
 h.put (bJ (bJ (bJ (bJ (bJ (Only.refl _ _) 2 _) 3 _) 4 _) 5 _) 6 _) (((((h.tk.set_ 2 _).set_ 3 _).set_ 4 _).set_ 5 _).set_ 6 _)
theorem CT.fin(h:CT w c y base ow sb qb tb s a who k v K S W ow1){r:zCl×WS}(hr:r=((zBc a who k v).d,S))(hL:K<=K')(ho:Only (λb=>b=qb) W W'):StepR w c y K' base ow r (.returned (zBc a who k v).val) W':=by rw[hr];exact StepR.more hL (h.st.fin ⟨qH _ _ _ _,qH _ _ _ _,qH _ _ _ _⟩ (λu hu b hb=>by rcases hu with rfl|rfl|rfl<;>cases hb) ho)
theorem CT.of(h:StT w c y base ow sb qb s K S W ow1)(who:Int):CT w c y base ow sb qb W.heap.size s 0 who Stk.none 0 K S (W.alloc (.cells (bR 0 who).cells.toArray 57)) ow1:=
 ⟨h.calm ((qC _ _).alloc (qA _) _),Blk.new _ _ _,h.pw.fresh _ (qA _),h.kept.only.size,by have:=h.qk.lt;omega⟩
end
section
variable {w:World}{c:Cfg}{y:fD}{S:WS}{K base:Nat}{ow:Nat->Tag}
set_option maxRecDepth 1000000 in
theorem yGv(h:RW w c y S K base ow)(N:Nat)(hS:S.ok c N)(hN:N<=10000)(hK:K<1000)(s:StpI)(hb:s.kind<1\/11<s.kind):Calls prog 25 #[.pointer (some ⟨y.hb,0,none⟩),s.val] w (StepR w c y (K+1) base ow (stepW c S s)):=by
 have HE:=uT (show stepW c S s=(bY 3 0,S)by unfold stepW;rw[if_neg (by omega),if_neg (by omega),if_neg (by omega),if_pos hb]);obtain⟨⟨hn,hn1,hn8⟩,hln,htk,hm3,hcap,hla,hmi⟩:=bK h.may;obtain⟨sb,hsb⟩:=kB w.heap.size;obtain⟨qb,hqb⟩:=kB (w.heap.size+1);obtain⟨wx,hwx⟩:=kB ((w.alloc (.cells s.cells.toArray 48)).alloc (.cells (bR 0 0).cells.toArray 57));have hX:=StT.of (s:=s) h;rw[<-hwx,<-hqb,<-hsb]at hX;have hxs:w.heap.size<=wx.heap.size:=hX.kept.only.size;obtain⟨HX,HWX,HIX⟩:=uJ hX hwx (And.intro hsb hqb);have hqx:=hX.ql;clear hwx hsb hqb hxs hqx hn;have s0:wx.cell? ⟨sb,0,none⟩=some (.int .i64 s.kind):=hX.sk.cell 0;clear hX h hS;have hd:(decide (s.kind<1)=true)\/(decide (s.kind<1)=false/\decide (s.kind>11)=true):=by simp only[decide_eq_true_eq,decide_eq_false_iff_not];omega
 have e0:s.val= .agg #[.int .i64 s.kind,.int .i64 s.who,.int .i64 s.item,.int .i64 s.count,.int .i64 s.life,.int .i64 s.id,.int .i64 s.label,.int .i64 s.key]:=rfl;rw[e0];clear e0;go_enter func25,ntmps25;go_upto_region 1 with fail;rw[zAf,zLp s,<-HWX.s,<-HIX.s.2,<-HIX.s.1];rcases hd with b1|⟨b1,b2⟩
 all_goals
  obtain⟨_,_,_,_,_,_,_,_,_,_,_⟩:=bW HX.s.qk;obtain⟨_,_,_,_,_,_,_,_,_,_,_⟩:=bS HX.s.qk;go_wp2_with fail;refine dC (w:=wx) (t:=(bR 3 0)) HX.s.qk rfl λw9 HO9=> ?_
  replace HO9:=uT HO9;exact StepR.more (jF K) (by rw[HE.s];exact HX.s.told 3 0 HO9.s)
set_option maxRecDepth 1000000 in
theorem yGb(h:RW w c y S K base ow)(N:Nat)(hS:S.ok c N)(hN:N<=10000)(hK:K<1000)(s:StpI)(hls:∀id,S.lost id=true->id<S.lts.length)(hk:s.kind=9):Calls prog 25 #[.pointer (some ⟨y.hb,0,none⟩),s.val] w (StepR w c y (K+1) base ow (stepW c S s)):=by
 have HE:=uT (show stepW c S s=zGs c S from if_pos hk);obtain⟨⟨hn,hn1,hn8⟩,hln,htk,hm3,hcap,hla,hmi⟩:=bK h.may;obtain⟨sb,hsb⟩:=kB w.heap.size;obtain⟨qb,hqb⟩:=kB (w.heap.size+1);obtain⟨wx,hwx⟩:=kB ((w.alloc (.cells s.cells.toArray 48)).alloc (.cells (bR 0 0).cells.toArray 57));have hX:=StT.of (s:=s) h;rw[<-hwx,<-hqb,<-hsb]at hX;have hxs:w.heap.size<=wx.heap.size:=hX.kept.only.size;obtain⟨HX,HWX,HIX,HXS⟩:=uK hX hwx (And.intro hsb hqb) hxs;have hqx:=hX.ql;clear hwx hsb hqb hxs hqx hn;have HTI:=uT (yIb hX.pw N hS hN (by omega) hls);have s0:wx.cell? ⟨sb,0,none⟩=some (.int .i64 s.kind):=hX.sk.cell 0;have b1:decide (s.kind<1)=false:=by simp;omega
 have b2:decide (s.kind>11)=false:=by simp;omega
 have a9:(s.kind==9)=true:=by simpa using hk
 clear hX h hS hls hk;have e0:s.val= .agg #[.int .i64 s.kind,.int .i64 s.who,.int .i64 s.item,.int .i64 s.count,.int .i64 s.life,.int .i64 s.id,.int .i64 s.label,.int .i64 s.key]:=rfl;rw[e0];clear e0;go_enter func25,ntmps25;go_upto_region 1 with fail;rw[zAf,zLp s,<-HWX.s,<-HIX.s.2,<-HIX.s.1];go_wp2_with fail;refine HTI.s.mono ?_;rintro _ w2 ⟨t,rfl,hd,hto,ow2,hp2,hk2,hn2⟩;obtain⟨H2,HTD,HTO,HTN⟩:=uK (HX.s.turn hp2 hk2) hd (hto.mono HXS.s) hn2;clear hd hto hp2 hk2 hn2;unfold Tol.val;obtain⟨_,_,_,_,_,_,_,_,_,_,_⟩:=bW H2.s.qk;obtain⟨_,_,_,_,_,_,_,_,_,_,_⟩:=bS H2.s.qk;go_wp2_with fail;refine dC (w:=w2) (t:=t) H2.s.qk rfl λw9 HO9=> ?_
 replace HO9:=uT HO9;exact StepR.more (jF K) (by rw[show stepW c S s=(t.d,(zGs c S).2)by rw[HE.s,HTD.s],HTD.s,<-HTD.s];exact H2.s.fin HTO.s HTN.s HO9.s)
set_option maxRecDepth 1000000 in
theorem yFf(h:RW w c y S K base ow)(N:Nat)(hS:S.ok c N)(hG:GoodW c K S)(hLn:zNt S)(hN:N<=10000)(hK:K<1000)(s:StpI)(hwf:(Lit.int .i64 s.id).wf=true)(hk:s.kind=10\/s.kind=11):Calls prog 25 #[.pointer (some ⟨y.hb,0,none⟩),s.val] w (StepR w c y (K+1) base ow (stepW c S s)):=by
 obtain⟨⟨hn,hn1,hn8⟩,hln,htk,hm3,hcap,hla,hmi⟩:=bK h.may;obtain⟨sb,hsb⟩:=kB w.heap.size;obtain⟨qb,hqb⟩:=kB (w.heap.size+1);obtain⟨wx,hwx⟩:=kB ((w.alloc (.cells s.cells.toArray 48)).alloc (.cells (bR 0 0).cells.toArray 57));have hX:=StT.of (s:=s) h;rw[<-hwx,<-hqb,<-hsb]at hX;have hxs:w.heap.size<=wx.heap.size:=hX.kept.only.size;obtain⟨HX,HWX,HIX,HXS⟩:=uK hX hwx (And.intro hsb hqb) hxs;have hqx:=hX.ql;clear hwx hsb hqb hxs hqx hn;have HTI:=uT (yFk hX.pw N hS hG hLn hN (by omega) s hwf hk);have e1:s.val= .agg #[.int .i64 s.kind,.int .i64 s.who,.int .i64 s.item,.int .i64 s.count,.int .i64 s.life,.int .i64 s.id,.int .i64 s.label,.int .i64 s.key]:=rfl;rw[e1]at HTI;clear e1;generalize stepW c S s=r at HTI⊢;have s0:wx.cell? ⟨sb,0,none⟩=some (.int .i64 s.kind):=hX.sk.cell 0;have s1:wx.cell? ⟨sb,1,none⟩=some (.int .i64 s.who):=hX.sk.cell 1;have s2:wx.cell? ⟨sb,2,none⟩=some (.int .i64 s.item):=hX.sk.cell 2;have s3:wx.cell? ⟨sb,3,none⟩=some (.int .i64 s.count):=hX.sk.cell 3;have s4:wx.cell? ⟨sb,4,none⟩=some (.int .i64 s.life):=hX.sk.cell 4;have s5:wx.cell? ⟨sb,5,none⟩=some (.int .i64 s.id):=hX.sk.cell 5;have s6:wx.cell? ⟨sb,6,none⟩=some (.int .i64 s.label):=hX.sk.cell 6;have s7:wx.cell? ⟨sb,7,none⟩=some (.int .i64 s.key):=hX.sk.cell 7;have b1:decide (s.kind<1)=false:=by simp;omega
 have b2:decide (s.kind>11)=false:=by simp;omega
 have a9:(s.kind==9)=false:=by simp;omega
 have hd:(s.kind==10)=true\/((s.kind==10)=false/\(s.kind==11)=true):=by simp only[beq_iff_eq,beq_eq_false_iff_ne];omega
 clear hX h hS hk hG hLn hwf;have e0:s.val= .agg #[.int .i64 s.kind,.int .i64 s.who,.int .i64 s.item,.int .i64 s.count,.int .i64 s.life,.int .i64 s.id,.int .i64 s.label,.int .i64 s.key]:=rfl;rw[e0];clear e0;go_enter func25,ntmps25;go_upto_region 1 with fail;rw[zAf,zLp s,<-HWX.s,<-HIX.s.2,<-HIX.s.1];rcases hd with b3|⟨b3,b4⟩
 all_goals
  go_wp2_with fail;refine HTI.s.mono ?_;rintro _ w2 ⟨t,rfl,hd,hto,ow2,hp2,hk2,hn2⟩;obtain⟨H2,HTD,HTO,HTN⟩:=uK (HX.s.turn hp2 hk2) hd (hto.mono HXS.s) hn2;clear hd hto hp2 hk2 hn2;unfold Tol.val;obtain⟨_,_,_,_,_,_,_,_,_,_,_⟩:=bW H2.s.qk;obtain⟨_,_,_,_,_,_,_,_,_,_,_⟩:=bS H2.s.qk;go_wp2_with fail;refine dC (w:=w2) (t:=t) H2.s.qk rfl λw9 HO9=> ?_
  replace HO9:=uT HO9;exact StepR.more (jF K) (by rw[show r=(t.d,r.2)by rw[HTD.s],HTD.s,<-HTD.s];exact H2.s.fin HTO.s HTN.s HO9.s)
set_option maxRecDepth 1000000 in
theorem land_who(h:RW w c y S K base ow)(N:Nat)(hS:S.ok c N)(hN:N<=10000)(hK:K<1000)(s:StpI)(hk:1<=s.kind/\s.kind<=8)(hb:s.who<0\/c.br<=s.who):Calls prog 25 #[.pointer (some ⟨y.hb,0,none⟩),s.val] w (StepR w c y (K+1) base ow (stepW c S s)):=by
 have HE:=uT (show stepW c S s=(bY 2 0,S)by unfold stepW;rw[if_neg (by omega),if_neg (by omega),if_neg (by omega),if_neg (by omega),if_pos hb]);obtain⟨⟨hn,hn1,hn8⟩,hln,htk,hm3,hcap,hla,hmi⟩:=bK h.may;obtain⟨sb,hsb⟩:=kB w.heap.size;obtain⟨qb,hqb⟩:=kB (w.heap.size+1);obtain⟨wx,hwx⟩:=kB ((w.alloc (.cells s.cells.toArray 48)).alloc (.cells (bR 0 0).cells.toArray 57));have hX:=StT.of (s:=s) h;rw[<-hwx,<-hqb,<-hsb]at hX;have hxs:w.heap.size<=wx.heap.size:=hX.kept.only.size;obtain⟨HX,HWX,HIX⟩:=uJ hX hwx (And.intro hsb hqb);have hqx:=hX.ql;clear hwx hsb hqb hxs hqx hn;have s0:wx.cell? ⟨sb,0,none⟩=some (.int .i64 s.kind):=hX.sk.cell 0;have s1:wx.cell? ⟨sb,1,none⟩=some (.int .i64 s.who):=hX.sk.cell 1;have c0:=hX.pw.cfgs.1;have b1:decide (s.kind<1)=false:=by simp;omega
 have b2:decide (s.kind>11)=false:=by simp;omega
 have a9:(s.kind==9)=false:=by simp;omega
 have a10:(s.kind==10)=false:=by simp;omega
 have a11:(s.kind==11)=false:=by simp;omega
 have hd:(decide (s.who<0)=true)\/(decide (s.who<0)=false/\decide (c.br<=s.who)=true):=by simp only[decide_eq_true_eq,decide_eq_false_iff_not];omega
 clear hX h hS;have e0:s.val= .agg #[.int .i64 s.kind,.int .i64 s.who,.int .i64 s.item,.int .i64 s.count,.int .i64 s.life,.int .i64 s.id,.int .i64 s.label,.int .i64 s.key]:=rfl;rw[e0];clear e0;go_enter func25,ntmps25;go_upto_region 1 with fail;rw[zAf,zLp s,<-HWX.s,<-HIX.s.2,<-HIX.s.1];rcases hd with b3|⟨b3,b4⟩
 all_goals
  go_upto_region 7 with fail;refine wp_region_quiet_lit (by as_aux_lemma=>kernel_rfl) (by as_aux_lemma=>kernel_rfl) ?_
  repeat(go_big_quiet_step (fail))
  refine qF ?_;rintro _ ⟨nq,rfl⟩;have HX2:=uT (HX.s.calm (below_drewN (qC _ wx) nq));clear c0 s0 s1 HX;generalize wx.drewN nq=w2 at HX2⊢;obtain⟨_,_,_,_,_,_,_,_,_,_,_⟩:=bW HX2.s.qk;obtain⟨_,_,_,_,_,_,_,_,_,_,_⟩:=bS HX2.s.qk;go_wp2_with fail;refine dC (w:=w2) (t:=(bR 2 0)) HX2.s.qk rfl λw9 HO9=> ?_
  replace HO9:=uT HO9;exact StepR.more (jF K) (by rw[HE.s];exact HX2.s.told 2 0 HO9.s)
end
section
variable {w:World}{c:Cfg}{y:fD}{S:WS}{K base:Nat}{ow:Nat->Tag}
set_option maxRecDepth 1000000 in
theorem yDa(h:RW w c y S K base ow)(N:Nat)(hS:S.ok c N)(hN:N<=10000)(hK:K<1000)(s:StpI)(i:Nat)(hi:i<c.n)(hw:s.who=i)(hk:s.kind=7\/s.kind=8):Calls prog 25 #[.pointer (some ⟨y.hb,0,none⟩),s.val] w (StepR w c y (K+1) base ow (stepW c S s)):=by
 have hbr:=(bK h.may).1.1;have HE:=uT (show stepW c S s=fK c S s i by unfold stepW;rw[if_neg (by omega),if_neg (by omega),if_neg (by omega),if_neg (by omega),if_neg (by rw[hw,hbr];omega),hw,qR];exact if_pos hk)
 obtain⟨⟨hn,hn1,hn8⟩,hln,htk,hm3,hcap,hla,hmi⟩:=bK h.may;obtain⟨sb,hsb⟩:=kB w.heap.size;obtain⟨qb,hqb⟩:=kB (w.heap.size+1);obtain⟨wx,hwx⟩:=kB ((w.alloc (.cells s.cells.toArray 48)).alloc (.cells (bR 0 0).cells.toArray 57));have hX:=StT.of (s:=s) h;rw[<-hwx,<-hqb,<-hsb]at hX;have hxs:w.heap.size<=wx.heap.size:=hX.kept.only.size;obtain⟨HX,HWX,HIX⟩:=uJ hX hwx (And.intro hsb hqb);have hqx:=hX.ql;clear hwx hsb hqb hxs hqx hn;obtain⟨HHW,HLA,HN8⟩:=uJ hw hla hn8;have s1:wx.cell? ⟨sb,1,none⟩=some (.int .i64 (i:Int)):=by rw[<-hw];exact hX.sk.cell 1
 have s0:wx.cell? ⟨sb,0,none⟩=some (.int .i64 s.kind):=hX.sk.cell 0;have c0:=hX.pw.cfgs.1;have b1:decide (s.kind<1)=false:=by simp;omega
 have b2:decide (s.kind>11)=false:=by simp;omega
 have a9:(s.kind==9)=false:=by simp;omega
 have a10:(s.kind==10)=false:=by simp;omega
 have a11:(s.kind==11)=false:=by simp;omega
 have b3:decide ((i:Int)<0)=false:=by simp
 have b4:decide (c.br<=(i:Int))=false:=by rw[hbr];simp;omega
 clear hX h hS hbr hw hla hln hn1 hn8;have e0:s.val= .agg #[.int .i64 s.kind,.int .i64 s.who,.int .i64 s.item,.int .i64 s.count,.int .i64 s.life,.int .i64 s.id,.int .i64 s.label,.int .i64 s.key]:=rfl;rw[e0];clear e0;go_enter func25,ntmps25;go_upto_region 1 with fail;rw[zAf,zLp s,<-HWX.s,<-HIX.s.2,<-HIX.s.1];go_upto_region 7 with fail;refine wp_region_quiet_lit (by as_aux_lemma=>kernel_rfl) (by as_aux_lemma=>kernel_rfl) ?_
 repeat(go_big_quiet_step (fail))
 refine qF ?_;rintro _ ⟨nq,rfl⟩;have HX2:=uT (HX.s.calm (below_drewN (qC _ wx) nq));clear c0 s0 s1 HX HWX;generalize wx.drewN nq=w2 at HX2⊢;go_upto_region 9 with fail;have s1:w2.cell? ⟨sb,1,none⟩=some (.int .i64 (i:Int)):=by rw[<-HHW.s];exact HX2.s.sk.cell 1
 go_cut [5]from 46 to 48 (λs5 W=>∃tb,s5= .pointer (some ⟨tb,0,none⟩)/\uS (CT w c y base ow sb qb tb s 0 i Stk.none 0 K S W ow))
 case first=>go_wp2_with fail;go_meet;exact⟨_,rfl,uT (CT.of HX2.s i)⟩
 case rest=>
  obtain⟨tb,rfl,HC⟩:=hcut;clear s1 HX2;have s0:wc.cell? ⟨sb,0,none⟩=some (.int .i64 s.kind):=HC.s.st.sk.cell 0;go_upto_region 10 with fail;have hk2:(s.kind==7)=true\/((s.kind==7)=false/\(s.kind==8)=true):=by simp only[beq_iff_eq,beq_eq_false_iff_ne];omega
  go_cut [56]from 49 to 56 (λv W=>v= .bool true/\W=wc)
  case first=>
   rcases hk2 with a7|⟨a7,a8⟩
   all_goals
    go_wp2_with fail;go_meet;exact⟨rfl,rfl⟩
  case rest=>
   obtain⟨rfl,rfl⟩:=hcut;clear s0
   ·skip
    have c1:=HC.s.st.pw.cfgs.2.1;have hlan:c.la.n=c.ln:=HC.s.st.pw.cfg.1.1.symm;rw[hlan]at c1;by_cases hrng:s.label<0\/(c.ln:Int)<=s.label\/s.key<0\/8<=s.key
    ·have HB:=uT (show fK c S s i=(bY 2 i,S)by unfold fK;exact if_pos (by omega))
     have s6:wc.cell? ⟨sb,6,none⟩=some (.int .i64 s.label):=HC.s.st.sk.cell 6;have s7:wc.cell? ⟨sb,7,none⟩=some (.int .i64 s.key):=HC.s.st.sk.cell 7;have hd:(decide (s.label<0)=true)\/(decide (s.label<0)=false/\decide ((c.ln:Int)<=s.label)=true)\/(decide (s.label<0)=false/\decide ((c.ln:Int)<=s.label)=false/\decide (s.key<0)=true)\/(decide (s.label<0)=false/\decide ((c.ln:Int)<=s.label)=false/\decide (s.key<0)=false/\decide (7<s.key)=true):=by simp only[decide_eq_true_eq,decide_eq_false_iff_not];omega
     rcases hd with p1|⟨p1,p2⟩|⟨p1,p2,p3⟩|⟨p1,p2,p3,p4⟩
     all_goals
      go_upto_region 12 with fail;refine wp_region_quiet_lit (by as_aux_lemma=>kernel_rfl) (by as_aux_lemma=>kernel_rfl) ?_
      repeat(go_big_quiet_step (fail))
      refine qF ?_;rintro _ ⟨nq,rfl⟩;have H3:=uT (HC.s.calm (below_drewN (qC _ wc) nq));clear c1 s6 s7;generalize wc.drewN nq=w3 at H3⊢;have z0:w3.cell? ⟨tb,0,none⟩=some (.int .i64 0):=H3.s.tk.cell 0;have f0:=H3.s.tk.frozen 0;go_upto_region 22 with fail;have H8:=uT (H3.s.code 2);clear z0 f0;generalize w3.setCell ⟨tb,0,none⟩ (.int .i64 2)=w8 at H8⊢;have HT:=uT H8.s.st;obtain⟨z0,z1,z2,z3,z4,z5,z6,z7,z8,z9,z10⟩:=dM H8.s.tk;unfold zBc at z0 z1 z2 z3 z4 z5 z6 z7 z8 z9 z10;dsimp only[Stk.none]at z0 z1 z2 z3 z4 z5 z6 z7 z8 z9 z10;obtain⟨_,_,_,_,_,_,_,_,_,_,_⟩:=bW HT.s.qk;obtain⟨_,_,_,_,_,_,_,_,_,_,_⟩:=bS HT.s.qk;go_wp2_with fail;refine dC (w:=w8) (t:=(zBc 2 i Stk.none 0)) HT.s.qk rfl λw9 HO9=> ?_
      replace HO9:=uT HO9;exact H8.s.fin (by rw[HE.s,HB.s];rfl) (jF K) HO9.s
    ·obtain⟨l,hl⟩:=qP (show 0<=s.label by omega);obtain⟨k,hkk⟩:=qP (show 0<=s.key by omega);have hll:l<c.ln:=by omega
     have hk8:k<8:=by omega
     have hll':(l:Int)<(c.ln:Int):=by omega
     have hk8':(k:Int)<8:=by omega
     have s6:wc.cell? ⟨sb,6,none⟩=some (.int .i64 (l:Int)):=by rw[<-hl];exact HC.s.st.sk.cell 6
     have s7:wc.cell? ⟨sb,7,none⟩=some (.int .i64 (k:Int)):=by rw[<-hkk];exact HC.s.st.sk.cell 7
     have p1:decide ((l:Int)<0)=false:=by simp
     have p2:decide ((c.ln:Int)<=(l:Int))=false:=by simpa using hll
     have p2':decide (c.ln<=l)=false:=by simpa using hll
     have p3:decide ((k:Int)<0)=false:=by simp
     have p4:decide ((7:Int)<(k:Int))=false:=by simp;omega
     have p4':decide (7<k)=false:=by simp;omega
     have HLK:=uT (And.intro hl hkk);clear hrng hl hkk;go_upto_region 12 with fail;refine wp_region_quiet_lit (by as_aux_lemma=>kernel_rfl) (by as_aux_lemma=>kernel_rfl) ?_
     repeat(go_big_quiet_step (fail))
     refine qF ?_;rintro _ ⟨nq,rfl⟩;have H3:=uT (HC.s.calm (below_drewN (qC _ wc) nq));clear c1 s6 s7;generalize wc.drewN nq=w3 at H3⊢;go_upto_region 14 with fail;have s0:w3.cell? ⟨sb,0,none⟩=some (.int .i64 s.kind):=H3.s.st.sk.cell 0;have s3:w3.cell? ⟨sb,3,none⟩=some (.int .i64 s.count):=H3.s.st.sk.cell 3;by_cases hcnt:s.kind=7/\(s.count<0\/255<s.count)
     ·have HB:=uT (show fK c S s i=(bY 2 i,S)by unfold fK;exact if_pos (by have:=HLK.s;omega))
      have a7:(s.kind==7)=true:=by simpa using hcnt.1
      have hd:decide (s.count<0)=true\/(decide (s.count<0)=false/\decide (255<s.count)=true):=by simp only[decide_eq_true_eq,decide_eq_false_iff_not];omega
      rcases hd with q1|⟨q1,q2⟩
      all_goals
       have z0:w3.cell? ⟨tb,0,none⟩=some (.int .i64 0):=H3.s.tk.cell 0;have f0:=H3.s.tk.frozen 0;go_upto_region 22 with fail;have H8:=uT (H3.s.code 2);clear z0 f0;generalize w3.setCell ⟨tb,0,none⟩ (.int .i64 2)=w8 at H8⊢;have HT:=uT H8.s.st;obtain⟨z0,z1,z2,z3,z4,z5,z6,z7,z8,z9,z10⟩:=dM H8.s.tk;unfold zBc at z0 z1 z2 z3 z4 z5 z6 z7 z8 z9 z10;dsimp only[Stk.none]at z0 z1 z2 z3 z4 z5 z6 z7 z8 z9 z10;obtain⟨_,_,_,_,_,_,_,_,_,_,_⟩:=bW HT.s.qk;obtain⟨_,_,_,_,_,_,_,_,_,_,_⟩:=bS HT.s.qk;go_wp2_with fail;refine dC (w:=w8) (t:=(zBc 2 i Stk.none 0)) HT.s.qk rfl λw9 HO9=> ?_
       replace HO9:=uT HO9;exact H8.s.fin (by rw[HE.s,HB.s];rfl) (jF K) HO9.s
     ·have hd:((s.kind==7)=true/\decide (s.count<0)=false/\decide (255<s.count)=false)\/(s.kind==7)=false:=by simp only[beq_iff_eq,beq_eq_false_iff_ne,decide_eq_false_iff_not];omega
      go_cut [103]from 104 to 116 (λv W=>v= .bool false/\W=w3)
      case first=>
       rcases hd with⟨a7,q1,q2⟩|a7
       all_goals
        go_wp2_with fail;go_meet;exact⟨rfl,rfl⟩
      case rest=>
       obtain⟨rfl,rfl⟩:=hcut;clear s0 s3;obtain⟨bl,ol,z,hA,_,hz,hcz⟩:=dQ H3.s.st.pw.cfg.1.2.2.2 (show l<c.la.n by rw[hlan];exact hll);have hzb:=HLA.s z (qB hz);have hz255:z<=255:=by
        have h1:(2:Int)^c.n<=2^8:=by exact_mod_cast Nat.pow_le_pow_right (by omega) HN8.s
        omega
       obtain⟨v,hv⟩:=qP hzb.1;rw[hv]at hcz hz;have HEV:=uT (show fK c S s i=(if v.testBit i=false then(bY 11 i,S)else if s.kind=7 then(bY 0 i,{S with st:=bN S.st i ((S.st i).set l (zFm ((S.st i).getD l []) i k s.count false))})else if(zAn ((S.st i).getD l []) k).2=false then(bY 6 i,S)else(⟨0,i,Stk.none,(zAn ((S.st i).getD l []) k).1.value,[],[],[]⟩,S))by have hb:=HLK.s;unfold fK;rw[if_neg (by omega),hb.1,hb.2,qR,qG,hz,Option.getD_some,qR])
       have HIN:=uT (λW=>zXk v i W (by omega) (by have:=HN8.s;omega));have c1:=H3.s.st.pw.cfgs.2.1;rw[hlan,hA]at c1;have e1:=λm:Ext wc=>m.cell c1
       have e2:=λm:Ext wc=>m.cell hcz
       have e3:=λm:Ext wc=>m.cell (show wc.cell? ⟨sb,6,none⟩=some (.int .i64 (l:Int))by rw[<-HLK.s.1];exact H3.s.st.sk.cell 6)
       have e4:=λm:Ext wc=>m.cell (show wc.cell? ⟨sb,1,none⟩=some (.int .i64 (i:Int))by rw[<-HHW.s];exact H3.s.st.sk.cell 1)
       clear c1 hA hz hcz hzb;go_upto_region 16 with fail;generalize v.testBit i=M at HIN HEV;refine dR (by as_aux_lemma=>kernel_rfl) (by as_aux_lemma=>kernel_rfl) ?_
       repeat(go_big_quiet_step ((go_at_call 45;exact fT ((HIN.s _).mono λ_ _ ⟨he,hw⟩=>⟨he,hw▸qC _ _⟩))))
       refine qF ?_;rintro _ ⟨nq2,rfl⟩;have H5:=uT (H3.s.calm nq2.h);clear e1 e2 e3 e4 HIN;generalize nq2.W=w5 at H5⊢;cases M with
       |false=>
        have HB:=uT (show fK c S s i=(bY 11 i,S)from HEV.s.trans (if_pos rfl));have z0:w5.cell? ⟨tb,0,none⟩=some (.int .i64 0):=H5.s.tk.cell 0;have f0:=H5.s.tk.frozen 0;go_upto_region 22 with fail;have H8:=uT (H5.s.code 11);clear z0 f0;generalize w5.setCell ⟨tb,0,none⟩ (.int .i64 11)=w8 at H8⊢;have HT:=uT H8.s.st;obtain⟨z0,z1,z2,z3,z4,z5,z6,z7,z8,z9,z10⟩:=dM H8.s.tk;unfold zBc at z0 z1 z2 z3 z4 z5 z6 z7 z8 z9 z10;dsimp only[Stk.none]at z0 z1 z2 z3 z4 z5 z6 z7 z8 z9 z10;obtain⟨_,_,_,_,_,_,_,_,_,_,_⟩:=bW HT.s.qk;obtain⟨_,_,_,_,_,_,_,_,_,_,_⟩:=bS HT.s.qk;go_wp2_with fail;refine dC (w:=w8) (t:=(zBc 11 i Stk.none 0)) HT.s.qk rfl λw9 HO9=> ?_
        replace HO9:=uT HO9;exact H8.s.fin (by rw[HE.s,HB.s];rfl) (jF K) HO9.s
       |true=>
        rw[if_neg (by simp)]at HEV;go_upto_region 18 with fail;have s0:w5.cell? ⟨sb,0,none⟩=some (.int .i64 s.kind):=H5.s.st.sk.cell 0;rcases hd with⟨a7,q1,q2⟩|a7
        ·have h7:s.kind=7:=by simpa using a7
         have hcn:0<=s.count/\s.count<=255:=by simp only[decide_eq_false_iff_not]at q1 q2;omega
         obtain⟨HB,HSET⟩:=uI (HEV.s.trans (if_pos h7)) (λW (hW:uR w5 W)=>yAs (H5.s.calm hW).st.pw i l k hi hll hk8 s.count hcn (by omega));go_upto_region 19 with fail;have e0:=λm:Ext w5=>m.cell (show w5.cell? ⟨sb,3,none⟩=some (.int .i64 s.count)from H5.s.st.sk.cell 3)
         have e1:=λm:Ext w5=>m.cell (show w5.cell? ⟨sb,6,none⟩=some (.int .i64 (l:Int))by rw[<-HLK.s.1];exact H5.s.st.sk.cell 6)
         have e2:=λm:Ext w5=>m.cell (show w5.cell? ⟨sb,7,none⟩=some (.int .i64 (k:Int))by rw[<-HLK.s.2];exact H5.s.st.sk.cell 7)
         have e3:=λm:Ext w5=>m.cell (show w5.cell? ⟨sb,1,none⟩=some (.int .i64 (i:Int))by rw[<-HHW.s];exact H5.s.st.sk.cell 1)
         obtain⟨v8,hb8⟩:=H5.s.st.pw.land;have e4:=λm:Ext w5=>m.cell (show w5.cell? ⟨y.hb,8,none⟩=some (.pointer (some ⟨y.sb,0,none⟩))from hb8.cell 8)
         clear hb8 s0;refine bO [] [0,1,2,3,4,5,6,7,8,9,10,11] [] [] 12 [] (by as_aux_lemma=>kernel_rfl) (by as_aux_lemma=>kernel_rfl) (by intro c a d v w h;cases d<;>exact h) ?_;simp only[bB,qJ,qO,qD,qE];refine qF ?_
         repeat(go_big_quiet_step (fail))
         refine qF (qF ?_);clear e0 e1 e2 e3 e4;rintro W1 ⟨nq,hW⟩;have hWB:uR w5 W1:=hW▸nq.h;clear hW;simp only[fJ];have h6:=H5.s.calm hWB;go_wp2_with fail;refine(HSET.s W1 hWB).mono ?_;rintro _ w6 ⟨rfl,ht⟩;obtain⟨ow6,h7,_⟩:=ht.runC h6;have H7:=uT h7;clear h6 h7 ht hWB HSET;go_upto_region 22 with fail;have HT:=uT H7.s.st;obtain⟨z0,z1,z2,z3,z4,z5,z6,z7,z8,z9,z10⟩:=dM H7.s.tk;unfold zBc at z0 z1 z2 z3 z4 z5 z6 z7 z8 z9 z10;dsimp only[Stk.none]at z0 z1 z2 z3 z4 z5 z6 z7 z8 z9 z10;obtain⟨_,_,_,_,_,_,_,_,_,_,_⟩:=bW HT.s.qk;obtain⟨_,_,_,_,_,_,_,_,_,_,_⟩:=bS HT.s.qk;go_wp2_with fail;refine dC (w:=w6) (t:=(zBc 0 i Stk.none 0)) HT.s.qk rfl λw9 HO9=> ?_
         replace HO9:=uT HO9;exact H7.s.fin (by rw[HE.s,HB.s];rfl) (qA _) HO9.s
        ·have h7:¬ s.kind=7:=by simpa using a7
         rw[if_neg h7]at HEV;obtain⟨x,z2,q,r1,r2,r3,r4,r5,r6,r8,hfind⟩:=H5.s.st.pw.slot hi hll hk8;have s6:w5.cell? ⟨sb,6,none⟩=some (.int .i64 (l:Int)):=by rw[<-HLK.s.1];exact H5.s.st.sk.cell 6
         have s7:w5.cell? ⟨sb,7,none⟩=some (.int .i64 (k:Int)):=by rw[<-HLK.s.2];exact H5.s.st.sk.cell 7
         have s1:w5.cell? ⟨sb,1,none⟩=some (.int .i64 (i:Int)):=by rw[<-HHW.s];exact H5.s.st.sk.cell 1
         obtain⟨v8,hb8⟩:=H5.s.st.pw.land;have s8:w5.cell? ⟨y.hb,8,none⟩=some (.pointer (some ⟨y.sb,0,none⟩)):=hb8.cell 8;have hi':(i:Int)<(c.n:Int):=by omega
         obtain⟨e,b⟩:=q;rw[hfind]at HEV;dsimp only at r3 r4 r5;have HR:=uT (show w5.cell? ⟨y.xb,i,none⟩=some (.slice (some ⟨x,0,none⟩) c.ln c.ln)/\w5.cell? ⟨x,l*40+k*5+1,none⟩=some (.int .i64 e.value)/\w5.cell? ⟨y.sb,1,none⟩=some (.slice (some ⟨y.xb,0,none⟩) c.n y.xc)from⟨r1,r4,r6⟩);clear hb8 hfind r4;go_upto_region 20 with fail;have hbg:b=false\/(b=true/\(e.gone=true\/e.gone=false)):=by cases b<;>cases e.gone<;>simp
         rcases hbg with rfl|⟨rfl,hg⟩
         ·have HB:=uT (show fK c S s i=(bY 6 i,S)from HEV.s.trans (if_pos rfl));refine wp_region_quiet_lit (by as_aux_lemma=>kernel_rfl) (by as_aux_lemma=>kernel_rfl) ?_
          repeat(go_big_quiet_step (fail))
          refine qF ?_;rintro _ ⟨nq,rfl⟩;obtain⟨H6,HRQ⟩:=uI (H5.s.calm (below_drewN (qC _ w5) nq)) (below_drewN (qC w5.heap.size w5) nq);clear r1 r2 r3 r5 r6 r8 s0 s1 s6 s7 s8;generalize w5.drewN nq=w6 at H6 HRQ⊢;have z0:w6.cell? ⟨tb,0,none⟩=some (.int .i64 0):=H6.s.tk.cell 0;have f0:=H6.s.tk.frozen 0;go_upto_region 22 with fail;have H8:=uT (H6.s.code 6);clear z0 f0;generalize w6.setCell ⟨tb,0,none⟩ (.int .i64 6)=w8 at H8⊢;have HT:=uT H8.s.st;obtain⟨z0,z1,z2,z3,z4,z5,z6,z7,z8,z9,z10⟩:=dM H8.s.tk;unfold zBc at z0 z1 z2 z3 z4 z5 z6 z7 z8 z9 z10;dsimp only[Stk.none]at z0 z1 z2 z3 z4 z5 z6 z7 z8 z9 z10;obtain⟨_,_,_,_,_,_,_,_,_,_,_⟩:=bW HT.s.qk;obtain⟨_,_,_,_,_,_,_,_,_,_,_⟩:=bS HT.s.qk;go_wp2_with fail;refine dC (w:=w8) (t:=(zBc 6 i Stk.none 0)) HT.s.qk rfl λw9 HO9=> ?_
          replace HO9:=uT HO9;exact H8.s.fin (by rw[HE.s,HB.s];rfl) (jF K) HO9.s
         ·rcases hg with hg|hg
          ·rw[hg]at r5;have HB:=uT (show fK c S s i=(bY 6 i,S)from HEV.s.trans (if_pos (by show(!e.gone)=false;rw[hg];rfl)));refine wp_region_quiet_lit (by as_aux_lemma=>kernel_rfl) (by as_aux_lemma=>kernel_rfl) ?_
           repeat(go_big_quiet_step (fail))
           refine qF ?_;rintro _ ⟨nq,rfl⟩;obtain⟨H6,HRQ⟩:=uI (H5.s.calm (below_drewN (qC _ w5) nq)) (below_drewN (qC w5.heap.size w5) nq);clear r1 r2 r3 r5 r6 r8 s0 s1 s6 s7 s8;generalize w5.drewN nq=w6 at H6 HRQ⊢;have z0:w6.cell? ⟨tb,0,none⟩=some (.int .i64 0):=H6.s.tk.cell 0;have f0:=H6.s.tk.frozen 0;go_upto_region 22 with fail;have H8:=uT (H6.s.code 6);clear z0 f0;generalize w6.setCell ⟨tb,0,none⟩ (.int .i64 6)=w8 at H8⊢;have HT:=uT H8.s.st;obtain⟨z0,z1,z2,z3,z4,z5,z6,z7,z8,z9,z10⟩:=dM H8.s.tk;unfold zBc at z0 z1 z2 z3 z4 z5 z6 z7 z8 z9 z10;dsimp only[Stk.none]at z0 z1 z2 z3 z4 z5 z6 z7 z8 z9 z10;obtain⟨_,_,_,_,_,_,_,_,_,_,_⟩:=bW HT.s.qk;obtain⟨_,_,_,_,_,_,_,_,_,_,_⟩:=bS HT.s.qk;go_wp2_with fail;refine dC (w:=w8) (t:=(zBc 6 i Stk.none 0)) HT.s.qk rfl λw9 HO9=> ?_
           replace HO9:=uT HO9;exact H8.s.fin (by rw[HE.s,HB.s];rfl) (jF K) HO9.s
          ·rw[hg]at r5;have HB:=uT (show fK c S s i=(⟨0,i,Stk.none,e.value,[],[],[]⟩,S)from HEV.s.trans (if_neg (by show ¬ (!e.gone)=false;rw[hg];simp)));refine wp_region_quiet_lit (by as_aux_lemma=>kernel_rfl) (by as_aux_lemma=>kernel_rfl) ?_
           repeat(go_big_quiet_step (fail))
           refine qF ?_;rintro _ ⟨nq,rfl⟩;obtain⟨H6,HRQ⟩:=uI (H5.s.calm (below_drewN (qC _ w5) nq)) (below_drewN (qC w5.heap.size w5) nq);clear r1 r2 r3 r5 r6 r8 s0 s1 s6 s7 s8;generalize w5.drewN nq=w6 at H6 HRQ⊢;go_upto_region 11 with fail;have e0:=λm:Ext w6=>m.cell ((⟨w6,HRQ.s⟩:Ext w5).cell HR.s.1)
           have e1:=λm:Ext w6=>m.cell ((⟨w6,HRQ.s⟩:Ext w5).cell HR.s.2.1)
           have e2:=λm:Ext w6=>m.cell ((⟨w6,HRQ.s⟩:Ext w5).cell HR.s.2.2)
           have e3:=λm:Ext w6=>m.cell (show w6.cell? ⟨sb,6,none⟩=some (.int .i64 (l:Int))by rw[<-HLK.s.1];exact H6.s.st.sk.cell 6)
           have e4:=λm:Ext w6=>m.cell (show w6.cell? ⟨sb,7,none⟩=some (.int .i64 (k:Int))by rw[<-HLK.s.2];exact H6.s.st.sk.cell 7)
           have e5:=λm:Ext w6=>m.cell (show w6.cell? ⟨sb,1,none⟩=some (.int .i64 (i:Int))by rw[<-HHW.s];exact H6.s.st.sk.cell 1)
           obtain⟨v8,hb8⟩:=H6.s.st.pw.land;have e6:=λm:Ext w6=>m.cell (show w6.cell? ⟨y.hb,8,none⟩=some (.pointer (some ⟨y.sb,0,none⟩))from hb8.cell 8)
           clear hb8;refine bO [] [0,1,2,3,4,5,6,7,8,9,10,11,12,13,14,15,16,17,18,19] [] [] 20 [] (by as_aux_lemma=>kernel_rfl) (by as_aux_lemma=>kernel_rfl) (by intro c a d v w h;cases d<;>exact h) ?_;simp only[bB,qJ,qO,qD,qE];refine qF ?_
           repeat(go_big_quiet_step (fail))
           refine qF (qF ?_);clear e0 e1 e2 e3 e4 e5 e6;rintro W1 ⟨nq,hW⟩;have hWB:uR w6 W1:=hW▸nq.h;clear hW;simp only[fJ];have H7:=uT (H6.s.calm hWB);clear hWB;have z0:W1.cell? ⟨tb,7,none⟩=some (.int .i64 0):=H7.s.tk.cell 7;have f0:=H7.s.tk.frozen 7;go_upto_region 22 with fail;have H8:=uT (H7.s.value e.value);clear z0 f0;generalize W1.setCell ⟨tb,7,none⟩ (.int .i64 e.value)=w8 at H8⊢;have HT:=uT H8.s.st;obtain⟨z0,z1,z2,z3,z4,z5,z6,z7,z8,z9,z10⟩:=dM H8.s.tk;unfold zBc at z0 z1 z2 z3 z4 z5 z6 z7 z8 z9 z10;dsimp only[Stk.none]at z0 z1 z2 z3 z4 z5 z6 z7 z8 z9 z10;obtain⟨_,_,_,_,_,_,_,_,_,_,_⟩:=bW HT.s.qk;obtain⟨_,_,_,_,_,_,_,_,_,_,_⟩:=bS HT.s.qk;go_wp2_with fail;refine dC (w:=w8) (t:=(zBc 0 i Stk.none e.value)) HT.s.qk rfl λw9 HO9=> ?_
           replace HO9:=uT HO9;exact H8.s.fin (by rw[HE.s,HB.s];rfl) (jF K) HO9.s
end
end Go.Proofs.YtbolcebmbpepdaaGreatDoor
