/- Contracts. Conditions: those each states. -/
import Derived.Deep.Onto
import Derived.Test.YtbolcebmbpepdaaGreatDoorM04
namespace Go.Proofs.YtbolcebmbpepdaaGreatDoor
set_option maxRecDepth 100000
set_option maxHeartbeats 8000000
set_option linter.all false
open Go.RowKit Tryz
theorem info_i64:(prog.info? 3).map (λi=>(i.zero,i.size,i.bytes))=some (some (.int .i64 0),1,8):=by kernel_rfl
theorem zHd:∃i,prog.info? 3=some i/\i.zero=some (.int .i64 0)/\i.size=1/\i.bytes=8:=by
 have h:=info_i64;cases hi:prog.info? 3 with
 |none=>rw[hi]at h;simp at h
 |some i=>rw[hi]at h;simp at h;exact⟨i,rfl,h.1,h.2.1,h.2.2⟩
theorem zFn(k:IntKind)(l:List Int):∀u∈l.map (Value.int k),u.oneCell'=true:=by intro u hu;obtain⟨z,_,rfl⟩:=jC.1 hu;rfl
def IRow(w:World)(g:Nat)(os:List Int)(T:List Value):Prop:=Blk w g 3 (os.map (Value.int .i64)++T).toArray
section
variable {w:World}{g:Nat}{os:List Int}{T:List Value}
theorem IRow.cell(h:IRow w g os T){k:Nat}{o:Int}(hk:os[k]? =some o):w.cell? ⟨g,k,none⟩=some (.int .i64 o):=by have hl:=(qK.1 hk).1;rw[Blk.cell h k,jH,List.getElem?_append_left (by simpa using hl),qV,hk];rfl
theorem IRow.frozen(h:IRow w g os T)(k:Nat):w.frozen? ⟨g,k,none⟩=false:=Blk.frozen h k
theorem IRow.set_(h:IRow w g os T){k:Nat}(hk:k<os.length)(x:Int):IRow (w.setCell ⟨g,k,none⟩ (.int .i64 x)) g (os.set k x) T:=by
 have h1:=Blk.set_ h k (.int .i64 x);have e:(os.map (Value.int .i64)++T).toArray.setIfInBounds k (.int .i64 x)=((os.set k x).map (Value.int .i64)++T).toArray:=by rw[<-uD];simp only[Array.toList_setIfInBounds];rw[List.set_append_left _ _ (by simpa using hk),List.map_set]
 rw[e]at h1;exact h1
theorem IRow.own(h:IRow w g os T){base n cap:Nat}(hb:base<=g)(hn:os.length=n)(hc:n+T.length=cap)(hm:cap<=maxLen):w.ownsRow base 3 1 (.slice (some ⟨g,0,none⟩) n cap) n (os.map (Value.int .i64)):=
 ⟨by simp[hn],.inr ⟨g,cap,_,rfl,hb,h,by omega,hm,by simp[hn];omega,by rw[uF (by simp[hn])];exact qS (by simp[hn])⟩⟩
theorem IRow.reads(h:IRow w g os T){n:Nat}(hn:os.length=n):Reads w w.heap.size 1 (some ⟨g,0,none⟩) n (os.map (Value.int .i64)):=by
 refine⟨by simp[hn],λ_=>⟨_,rfl,Blk.lt h,λj u hj=> ?_⟩⟩;have e:(⟨g,0,none⟩:Addr).add j=⟨g,j,none⟩:=by unfold Addr.add;split<;>simp_all
 rw[qV]at hj;cases ho:os[j]? with
 |none=>rw[ho]at hj;cases hj
 |some o=>rw[ho]at hj;injection hj with hj;rw[e,h.cell ho,<-hj]
theorem zZh{base n:Nat}{v:Value}(h:w.ownsRow base 3 1 v n (os.map (Value.int .i64)))(hn:0<n):∃g cap T,v= .slice (some ⟨g,0,none⟩) n cap/\base<=g/\g<w.heap.size/\n<=cap/\cap<=maxLen/\n+T.length=cap/\IRow w g os T:=by
 rcases h.2 with⟨_,h0⟩|⟨g,cap,cur,hv,hb,hh,hc,hm,hs,ht⟩
 ·omega
 ·refine⟨g,cap,cur.toList.drop (n*1),hv,hb,Blk.lt (t:=3) hh,hc,hm,by simp;omega,?_⟩;unfold IRow;rw[<-ht,jW];exact hh
end
structure BkL where
 g:Nat
 gw:Nat
 gg:Nat
 gq:Nat
 cq:Nat
 T:List Value
def BkL.has(p:BkL)(k:Nat):Prop:=k=p.g\/k=p.gw\/k=p.gg\/k=p.gq
structure BkAt(w:World)(base nb:Nat)(p:BkL)(most ticks:Int)(s:BkS):Prop where
 blk:Blk w p.g 75 #[.int .i64 most,.int .i64 ticks,.int .i64 s.round,.int .i64 s.reserve,.int .i64 s.all,.slice (some ⟨p.gw,0,none⟩) nb nb,.slice (some ⟨p.gg,0,none⟩) nb nb,.slice (some ⟨p.gq,0,none⟩) nb p.cq]
 rw_:IRow w p.gw s.wants []
 rg:IRow w p.gg s.granted []
 rq:IRow w p.gq s.quota p.T
 cap:nb+p.T.length=p.cq/\p.cq<=maxLen
 low:base<=p.g/\base<=p.gw/\base<=p.gg/\base<=p.gq
 ne:p.gw≠p.gg/\p.gw≠p.gq/\p.gg≠p.gq
section
variable {w w':World}{base nb:Nat}{p:BkL}{most ticks:Int}{s:BkS}
theorem BkAt.ng(h:BkAt w base nb p most ticks s):p.g≠p.gw/\p.g≠p.gg/\p.g≠p.gq:=
 ⟨Blk.ne_ h.blk h.rw_ (by decide),Blk.ne_ h.blk h.rg (by decide),Blk.ne_ h.blk h.rq (by decide)⟩
theorem BkAt.lt(h:BkAt w base nb p most ticks s)(k:Nat)(hk:p.has k):k<w.heap.size:=by
 rcases hk with rfl|rfl|rfl|rfl
 ·exact h.blk.lt
 ·exact Blk.lt h.rw_
 ·exact Blk.lt h.rg
 ·exact Blk.lt h.rq
theorem BkAt.only{D:Nat->Prop}(h:BkAt w base nb p most ticks s)(ho:Only D w w')(hn:∀k,p.has k->¬ D k):BkAt w' base nb p most ticks s:=
 ⟨h.blk.only ho (hn _ (.inl rfl)),Blk.only h.rw_ ho (hn _ (.inr (.inl rfl))),Blk.only h.rg ho (hn _ (.inr (.inr (.inl rfl)))),Blk.only h.rq ho (hn _ (.inr (.inr (.inr rfl)))),h.cap,h.low,h.ne⟩
theorem BkAt.calm(h:BkAt w base nb p most ticks s)(hb:uR w w'):BkAt w' base nb p most ticks s:=
 h.only (D:=λ_=>False) (Only.of_below hb λx h1 h2=>by omega) (λ_ _ e=>e)
end
def zZx(w:World)(base nb:Nat)(p:BkL)(most ticks:Int)(s':BkS)(e:Ending)(w':World):Prop:=
 e= .returned (.tuple #[])/\BkAt w' base nb p most ticks s'/\Only p.has w w'
theorem zWe(base nb:Nat)(p:BkL)(most ticks:Int)(s:BkS)(w:World)(n:Int)(h:BkAt w base nb p most ticks s)(hr:0<=s.reserve/\s.reserve<=1048576)(ha:0<=s.all/\s.all<=1048576)(hn:0<=n/\n<=1048576):Calls prog 62 #[.pointer (some ⟨p.g,0,none⟩),.int .i64 n] w (zZx w base nb p most ticks (zCr s n)):=by
 have c3:=h.blk.cell 3;have c4:=h.blk.cell 4;have f3:=h.blk.frozen 3;have f4:=h.blk.frozen 4;have HX:=uT h;clear h;go_enter func62,ntmps62;go_wp2_with fail
 go_end0
 refine⟨rfl,⟨?_,?_,?_,?_,HX.s.cap,HX.s.low,HX.s.ne⟩,?_⟩
 ·exact(HX.s.blk.set_ 3 (.int .i64 (s.reserve+n))).set_ 4 (.int .i64 (s.all+n))
 ·exact Blk.far (Blk.far HX.s.rw_ (Ne.symm HX.s.ng.1) _) (Ne.symm HX.s.ng.1) _
 ·exact Blk.far (Blk.far HX.s.rg (Ne.symm HX.s.ng.2.1) _) (Ne.symm HX.s.ng.2.1) _
 ·exact Blk.far (Blk.far HX.s.rq (Ne.symm HX.s.ng.2.2) _) (Ne.symm HX.s.ng.2.2) _
 ·exact Only.setCell (Only.setCell (Only.refl _ _) (λ_=> .inl rfl) _) (λ_=> .inl rfl) _
theorem zWx(base nb:Nat)(p:BkL)(most ticks:Int)(s:BkS)(w:World)(who:Nat)(n:Int)(h:BkAt w base nb p most ticks s)(hw:who<nb)(hl:s.wants.length=nb)(hnb:nb<=8):Calls prog 87 #[.pointer (some ⟨p.g,0,none⟩),.int .i64 who,.int .i64 n] w (zZx w base nb p most ticks (zCs s who n)):=by
 have c5:=h.blk.cell 5;have d0:=IRow.cell h.rw_ (bX hl hw);have f0:=IRow.frozen h.rw_ who;have hwn:(who:Int)<(nb:Int):=by omega
 obtain⟨HX,HF⟩:=uI h (show zCs s who n={s with wants:=s.wants.set who (max (s.wants.getD who 0) n)}from rfl);obtain⟨x,hx⟩:=kB (s.wants.getD who 0);rw[<-hx]at d0 HF;have HL:=uT (show who<s.wants.length by rw[hl];exact hw);clear h hl hx;have key:∀(nq:Nat) (z:Int),z=max x n->zZx w base nb p most ticks (zCs s who n) (.returned (.tuple #[])) ((w.drewN nq).setCell ⟨p.gw,who,none⟩ (.int .i64 z)):=λnq z hz=>by rw[HF.s,<-hz];have hx:=HX.s.only (D:=λ_=>False) ((Only.refl _ w).drewN nq) (λ_ _ e=>e);refine⟨rfl,⟨hx.blk.far hx.ng.1 _,hx.rw_.set_ HL.s z,Blk.far hx.rg (Ne.symm hx.ne.1) _,Blk.far hx.rq (Ne.symm hx.ne.2.1) _,hx.cap,hx.low,hx.ne⟩,?_⟩;exact Only.setCell ((Only.refl _ w).drewN nq) (λ_=> .inr (.inl rfl)) _
 have KEY:=uT key;clear key;rcases(show x<n\/n<=x by omega)with hxn|hxn
 all_goals
  go_enter func87,ntmps87;go_wp2_with fail;refine gW [] [0,1,2,3,4,5,6,7,8,9,10,11,12] [] [13] 14 [15] (by kernel_rfl) (by kernel_rfl) (by intro c a d v w h;cases d<;>exact h) ?_;simp only[bB,qJ,qO,qD,qE];refine qF ?_
  repeat(go_big_quiet_step (fail))
  refine qF (qF ?_);rintro _ ⟨nq,rfl⟩;simp only[fJ];go_wp2_with fail;refine⟨⟨nq,rfl⟩,?_⟩;go_wp2_with fail
  go_end0
  exact KEY.s nq _ (by omega)
def zMw(base:Nat)(r:List Int×Int)(e:Ending)(w w':World):Prop:=
 ∃v:Value,e= .returned (.tuple #[v,.int .i64 r.2])/\w'.ownsRow base 3 1 v r.1.length (r.1.map (.int .i64))/\uR w w'
def zId(w:World)(total:Int)(A:Option Addr)(n c:Nat):World:=(w.alloc (.cells #[.int .i64 total] 3)).alloc (.cells #[.slice A n c] 22)
theorem zFr(w:World)(total:Int)(A:Option Addr)(n c:Nat):(zId w total A n c).heap.size=w.heap.size+2:=by simp[zId]
theorem zLt(w:World)(total:Int)(A:Option Addr)(n c:Nat):uR w (zId w total A n c):=
 ((qC _ w).alloc (qA _) _).alloc (by simp) _
theorem zSj{w:World}{total:Int}{A:Option Addr}{n c:Nat}{W:World}(h:Below (w.heap.size+2) (zId w total A n c) W):W.cell? ⟨w.heap.size,0,none⟩=some (.int .i64 total):=by rw[h.cell (p:=⟨w.heap.size,0,none⟩) (by show w.heap.size<_;omega)];exact(Blk.alloc (Blk.new w _ _) _).cell 0
theorem zRm{w:World}{total:Int}{A:Option Addr}{n c:Nat}{W:World}(h:Below (w.heap.size+2) (zId w total A n c) W):W.cell? ⟨w.heap.size+1,0,none⟩=some (.slice A n c):=by rw[h.cell (p:=⟨w.heap.size+1,0,none⟩) (by show w.heap.size+1<_;omega)];have:=(Blk.new (w.alloc (.cells #[.int .i64 total] 3)) 22 #[.slice A n c]).cell 0;simp[zId]at this⊢
theorem zJc{w:World}{total:Int}{A:Option Addr}{n c:Nat}{W:World}(h:Below (w.heap.size+2) (zId w total A n c) W):uR w W:=
 (zLt w total A n c).trans (h.mono (by omega))
theorem zEs(total:Int)(ws:List Int)(n:Nat)(hl:ws.length=n)(h:n<=16)(hb:(total::ws).all dK=false):zDj total ws=([],2):=by rw[zDj,if_neg (by omega)];have:(dK total&&ws.all dK)=false:=hb;rw[this];rfl
theorem zOt(total:Int)(ws:List Int)(n:Nat)(hl:ws.length=n)(h:n<=16)(hb:(total::ws).all dK=true):zDj total ws=(gives total ws,0):=by rw[zDj,if_neg (by omega)];have:(dK total&&ws.all dK)=true:=hb;rw[this];rfl
theorem yHp(A:Option Addr)(n c:Nat)(ws:List Int)(total:Int)(B:Nat)(w:World)(hl:ws.length=n)(hnc:n<=c)(hm:c<=maxLen)(ht: -9223372036854775808<=total/\total<=9223372036854775807)(hr:Reads w B 1 A n (ws.map (.int .i64)))(hB:B<=w.heap.size):Calls prog 110 #[.int .i64 total,.slice A n c] w λe w'=>zMw w.heap.size (zDj total ws) e w w':=by
 obtain⟨i0,hi,hz0,hz1,hz2⟩:∃i,prog.info? 3=some i/\i.zero=some (.int .i64 0)/\i.size=1/\i.bytes=8:=by
  have h:=zUn;cases hi:prog.info? 3 with
  |none=>rw[hi]at h;simp at h
  |some i=>rw[hi]at h;simp at h;exact⟨i,rfl,h.1,h.2.1,h.2.2⟩
 obtain⟨HR,HL⟩:=uI hr hl;clear hr hl;by_cases h16:16<n
 ·have HF:=uT (show zDj total ws=([],1)by rw[zDj,HL.s,if_pos h16]);go_enter func110,ntmps110
  go_wp2
  go_ret2;rw[HF.s];exact⟨_,rfl,qH _ _ _ _,zLt w total A n c⟩
 ·have h16':n<=16:=by omega
  clear h16;go_enter func110,ntmps110;have hRB:=(HR.s.more hB).below (zLt w total A n c);have hlit:=World.ownsRow_lit (base:=w.heap.size+2) (size:=1) (e:=3) (zId w total A n c) #[.int .i64 total] 1 (by rw[zFr];exact qA _) (by unfold maxLen;omega) rfl;have hRL:=hRB.alloc (by rw[zFr];omega) (.cells #[.int .i64 total] 3);rw[zFr]at hlit;have HBX:=uT (And.intro hRL hlit);clear hRB hlit hRL ht;have hmx:(1+n)*8<=140737488355328:=by omega
  have hmx2:1+n<=maxLen:=by unfold maxLen;omega
  go_wp2_with(first
   |(at_builtin;(refine fL _ rfl (.tmp 18) (.tmp 19) _ rfl (w.heap.size+2) 3 i0 _ 1 8 underlying22 hi hz0 hz1 hz2 rfl (by omega) _ 1 _ rfl HBX.s.2 w.heap.size A n c (ws.map (.int .i64)) rfl HBX.s.1 (by intro u hu;obtain⟨z,_,rfl⟩:=jC.1 hu;rfl) hmx2 hmx (by simp) ?_);intro v w1 hown hg hv;obtain⟨A1,c1,rfl,hc1⟩:=bE hown))
  have hbw:Below (w.heap.size+2) (zId w total A n c) w1:=by refine((qC _ _).alloc (by rw[zFr];exact qA _) _).grown hg (by simp[zId]) ?_;exact λk hk=>(HBX.s.2.lt k hk).1
  obtain⟨HR1,HB1⟩:=uI (show Reads w1 w1.heap.size 1 A1 (1+n) ((total::ws).map (.int .i64))from Reads.of_own hown) hbw;have hsz1:=hbw.size;rw[zFr]at hsz1;clear hg hv hown hbw HBX
  go_loop [22] (λi=>∃(k:Nat),k<=1+n/\i= .int .i64 k/\uS (((total::ws).drop k).all dK=(total::ws).all dK)) (λi=>1+n-(intOf i).toNat)
  case atStart=>exact⟨0,qL _,rfl,rfl⟩
  case round=>
   obtain⟨k,hk,rfl,HI⟩:=hrel;by_cases hlt:k<1+n
   ·obtain⟨b,o,z,rfl,_,hz,hc⟩:=dQ HR1.s hlt;have HI2:=uT (show(dK z&&((total::ws).drop (k+1)).all dK)=(total::ws).all dK by have h:=HI.s;rw[cZ _ k z hz,List.all_cons]at h;exact h)
    clear HI hz;by_cases hz0:z<0
    ·have HF:=uT (zEs total ws n HL.s h16' (by rw[<-HI2.s];simp[dK];omega));go_wp2_with fail;go_ret2;rw[HF.s];exact⟨_,rfl,qH _ _ _ _,zJc HB1.s⟩
    ·by_cases hz1:1048576<z
     ·have HF:=uT (zEs total ws n HL.s h16' (by rw[<-HI2.s];simp[dK];omega));have hz0':0<=z:=by omega
      clear hz0;go_wp2_with fail;go_ret2;rw[HF.s];exact⟨_,rfl,qH _ _ _ _,zJc HB1.s⟩
     ·have HI3:=uT (show((total::ws).drop (k+1)).all dK=(total::ws).all dK by
       rw[<-HI2.s];have:dK z=true:=by simp[dK];omega
       rw[this,Bool.true_and])
      have hz0':0<=z:=by omega
      have hz1':z<=1048576:=by omega
      clear hz0 hz1 HI2;go_wp2_with fail
      go_round
      case rel=>exact⟨k+1,by omega,by go_num,HI3.s⟩
      case measure=>simp[intOf];omega
   ·obtain rfl:k=1+n:=by omega
    have hall:(total::ws).all dK=true:=by have h:=HI.s;rw[qW (by rw[jG,HL.s];omega)]at h;exact h.symm
    have HF:=uT (zOt total ws n HL.s h16' hall);have hal:=(zKj (total::ws)).1 hall;have ht0:=(hal total (by simp)).1;have ht1:=(hal total (by simp)).2;obtain⟨HW,HRW⟩:=uI (λz (hz:z∈ws)=>hal z (by simp[hz])) ((HR.s.more hB).below (zJc HB1.s));have ct:=zSj HB1.s;have cw:=zRm HB1.s;clear hal hall HI HR1;have HC:=uT (λ(lv:Int) (q:Nat) (h0:0<=lv) (h1:lv<=1048577)=>zUt A n c ws lv w.heap.size (w1.drewN q) HL.s h16' HW.s h0 h1 (HRW.s.drewN q));have HS:=uT (show Calls prog 129 #[.int .i64 1048577,.func (.func 130) #[] #[.pointer (some ⟨w.heap.size+1,0,none⟩),.pointer (some ⟨w.heap.size,0,none⟩)]] w1 _ from
     yCs 130 #[.pointer (some ⟨w.heap.size+1,0,none⟩),.pointer (some ⟨w.heap.size,0,none⟩)] (λlv=>decide (total<cE ws lv)) 1048577 (by omega) w1 yFc
      λk q hk=>zXo A n c ws total k w.heap.size (w1.drewN q) _ _ HL.s h16' HW.s (by omega) (by omega) (HRW.s.drewN q) cw ct)
    go_wp2_with fail;refine HS.s.mono ?_;rintro e w2 ⟨i,rfl,hiN,hia,hib,m,rfl⟩;have hi0:i≠0:=by
     rintro rfl;rcases hib with h|h
     ·omega
     ·simp only[decide_eq_true_eq]at h;rw[show((0:Nat):Int)=0 from rfl,zKe ws λz hz=>(HW.s z hz).1]at h;omega
    obtain⟨lv,rfl⟩:∃lv,i=lv+1:=⟨i-1,by omega⟩;have e1:(((lv+1:Nat):Int)-1)=lv:=by omega
    rw[e1]at hia;have hle:cE ws lv<=total:=by
     rcases hia with h|h
     ·omega
     ·simpa using h
    have hlev:zKv total ws lv:=by
     refine⟨by omega,hle,?_⟩;rcases hib with h|h
     ·right;intro z hz;have:=(HW.s z hz).2;omega
     ·left;simpa using h
    have HG0:=zHk total ws ht0 HW.s lv hlev;have hlv:lv<=1048576:=by omega
    have hlb:=(zVs ws HW.s lv (by omega)).1;have HLV:=uT (Eq.refl (cE ws lv));obtain⟨L,hL⟩:∃L,cE ws lv=L:=⟨_,rfl⟩;have HC2:=uT (show∀q,Calls prog 131 #[.slice A n c,.int .i64 lv] (w1.drewN q) λe w'=>e= .returned (.int .i64 L)/\w1.drewN q=w' from
     λq=>by rw[<-hL];exact HC.s lv q (by omega) (by omega))
    rw[hL]at HG0 hle hlb;have HG:=uT HG0;clear HG0 HC HS hia hib hlev hL HLV hi0 hiN;go_wp2_with fail;go_quiet ((go_at_call 131;exact zSp (HC2.s _)));have HB2:=uT (show Below (w.heap.size+2) (zId w total A n c) ((w1.drewN m).drewN nq)from below_drewN (below_drewN HB1.s _) _);have hsz2:w.heap.size+2<=((w1.drewN m).drewN nq).heap.size:=hsz1;obtain⟨w3,hw3⟩:=kB ((w1.drewN m).drewN nq);rw[<-hw3]at HB2 hsz2;have ct3:=zSj HB2.s;have cw3:=zRm HB2.s;rw[<-hw3];have HR0:=uT (HR.s.more hB);clear HR hw3 HB1 HRW HC2 ct cw hsz1;go_wp2_with fail
    go_loopw [9,10,43] (λx v i wr=>∃(k:Nat) (r:Int) (gs:List Int),k<=n/\i= .int .i64 k/\x= .int .i64 r/\0<=r/\r<=1048576/\wr.ownsRow (w.heap.size+2) 3 1 v k (gs.map (.int .i64))/\Below (w.heap.size+2) (zId w total A n c) wr/\uS (gs++fU lv r (ws.drop k)=gives total ws)) (λ_ _ i _=>n-(intOf i).toNat)
    case atStart=>exact⟨0,total-L,[],qL _,rfl,rfl,by omega,by omega,qH _ _ _ _,HB2.s,HG.s⟩
    case round=>
     obtain⟨k,r,gs,hk,rfl,rfl,hr0,hr1,hown,hb,HI⟩:=hrel;by_cases hlt:k<n
     ·obtain⟨b,o,z,rfl,_,hz,hc⟩:=dQ (HR0.s.below (zJc hb)) hlt;have hzb:=HW.s z (qB hz);have hzz0:=hzb.1;have hzz1:=hzb.2;have HI2:=uT (show gs++fU lv r (z::ws.drop (k+1))=gives total ws by
       have h:=HI.s
       rwa[cZ ws k z hz]at h)
      have hsz:=hb.size;rw[zFr]at hsz;clear HI hz hzb;by_cases hzl:(lv:Int)<z
      ·by_cases hrp:0<r
       ·have HI3:=uT (show(gs++[(lv:Int)+1])++fU lv (r-1) (ws.drop (k+1))=gives total ws by have h:=HI2.s;rw[fU,if_pos ⟨hzl,hrp⟩]at h;simpa using h)
        clear HI2;go_wp2_with(first
         |(at_builtin;(refine bF _ rfl (.tmp 61) (.tmp 63) _ rfl (w.heap.size+2) 3 i0 _ 1 8 underlying22 hi hz0 hz1 hz2 rfl (by omega) (by omega) _ _ _ hown rfl _ 1 _ rfl rfl rfl (by simp[Value.oneCell']) (by omega) (by omega) ?_);intro g cap w4 hg hown1 hbel1 _ _))
        go_roundw
        case rel=>exact⟨k+1,r-1,gs++[(lv:Int)+1],by omega,by go_num,rfl,by omega,by omega,by rw[jA];exact hown1,hbel1 _ _ (qA _) hb,HI3.s⟩
        case measure=>simp[intOf];omega
       ·have HI3:=uT (show(gs++[(lv:Int)])++fU lv r (ws.drop (k+1))=gives total ws by have h:=HI2.s;rw[fU,if_neg (by omega),Int.min_eq_right (by omega)]at h;simpa using h)
        clear HI2;go_wp2_with(first
         |(at_builtin;(refine bF _ rfl (.tmp 61) (.tmp 63) _ rfl (w.heap.size+2) 3 i0 _ 1 8 underlying22 hi hz0 hz1 hz2 rfl (by omega) (by omega) _ _ _ hown rfl _ 1 _ rfl rfl rfl (by simp[Value.oneCell']) (by omega) (by omega) ?_);intro g cap w4 hg hown1 hbel1 _ _))
        go_roundw
        case rel=>exact⟨k+1,r,gs++[(lv:Int)],by omega,by go_num,rfl,by omega,by omega,by rw[jA];exact hown1,hbel1 _ _ (qA _) hb,HI3.s⟩
        case measure=>simp[intOf];omega
      ·have HI3:=uT (show(gs++[z])++fU lv r (ws.drop (k+1))=gives total ws by have h:=HI2.s;rw[fU,if_neg (by omega),Int.min_eq_left (by omega)]at h;simpa using h)
       clear HI2;go_wp2_with(first
        |(at_builtin;(refine bF _ rfl (.tmp 61) (.tmp 63) _ rfl (w.heap.size+2) 3 i0 _ 1 8 underlying22 hi hz0 hz1 hz2 rfl (by omega) (by omega) _ _ _ hown rfl _ 1 _ rfl rfl rfl (by simp[Value.oneCell']) (by omega) (by omega) ?_);intro g cap w4 hg hown1 hbel1 _ _))
       go_roundw
       case rel=>exact⟨k+1,r,gs++[z],by omega,by go_num,rfl,by omega,by omega,by rw[jA];exact hown1,hbel1 _ _ (qA _) hb,HI3.s⟩
       case measure=>simp[intOf];omega
     ·obtain rfl:k=n:=by omega
      have hgs:gs=gives total ws:=by have h:=HI.s;rw[qW (by rw[HL.s];exact qA _),fU,jR]at h;exact h
      obtain⟨HO,HBB⟩:=uI hown hb;clear HI hown hb;go_wp2_with fail;go_ret2;rw[HF.s];have hlen:(gives total ws).length=k:=by unfold gives;rw[zIj,HL.s]
      refine⟨_,rfl,?_,zJc HBB.s⟩;dsimp only;rw[hlen,<-hgs];exact HO.s.mono (by omega)
theorem zNx(A:Option Addr)(n c:Nat)(l:List Int)(B:Nat)(w:World)(hl:l.length=n)(hm:n*8<=140737488355328)(hr:Reads w B 1 A n (l.map (.int .i64)))(hB:B<=w.heap.size):Calls prog 53 #[.slice A n c] w λe w'=>∃v,e= .returned v/\w'.ownsRow w.heap.size 3 1 v n (l.map (.int .i64))/\uR w w':=by
 obtain⟨i0,hi,hz0,hz1,hz2⟩:=zHd;have q22:∀(w:World) (a:Option Addr) (n c n' c':Nat),(binOp .eql 22 (.slice a n c) (.slice none n' c')).run prog w= .ok (.bool a.isNone) w:=λw a n c n' c'=>Lib.run_eql_slice_nil w _ _ a n c n' c' underlying22
 obtain⟨HR,HL⟩:=uI (hr.more hB) hl;clear hr hl;cases A with
 |none=>
  obtain rfl:n=0:=by
   rcases Nat.eq_zero_or_pos n with h|h
   ·exact h
   ·obtain⟨a,ha,_⟩:=HR.s.2 h;cases ha
  obtain rfl:l=[]:=uC HL.s;go_enter func53,ntmps53;go_wp2_with fail;go_ret;exact⟨_,rfl,qH _ _ _ _,qC _ _⟩
 |some a=>
  have hlit:=World.ownsRow_lit (base:=w.heap.size) (size:=1) (e:=3) w #[] 0 (qA _) (by unfold maxLen;omega) rfl;obtain⟨HLIT,HR1⟩:=uI hlit (HR.s.alloc (qA _) (.cells #[] 3));have h1:0+n<=maxLen:=by unfold maxLen;omega
  have h2:(0+n)*8<=140737488355328:=by omega
  have HONE:=uT (zFn .i64 l);clear hlit hB hm;go_enter func53,ntmps53;go_wp2_with(first
   |(at_builtin;(refine fL _ rfl (.tmp 5) (.tmp 6) _ rfl w.heap.size 3 i0 _ 1 8 underlying22 hi hz0 hz1 hz2 rfl (by omega) _ 0 _ rfl HLIT.s w.heap.size (some a) n c (l.map (.int .i64)) rfl HR1.s HONE.s h1 h2 (by simp) ?_);intro v w1 hown hg hv))
  go_ret;exact⟨v,rfl,by simpa using hown,((qC _ w).alloc (qA _) _).grown hg (by simp) λk hk=>(HLIT.s.lt k hk).1⟩
def RowW(w wr:World)(g:Nat)(os:List Int):Prop:=w.heap.size<=g/\uR w wr/\Blk wr g 3 (os.map (Value.int .i64)).toArray
theorem RowW.cell{w wr:World}{g:Nat}{os:List Int}(h:RowW w wr g os){k:Nat}{o:Int}(hk:os[k]? =some o):wr.cell? ⟨g,k,none⟩=some (.int .i64 o):=by rw[h.2.2.cell k];simp[hk]
theorem RowW.frozen{w wr:World}{g:Nat}{os:List Int}(h:RowW w wr g os)(k:Nat):wr.frozen? ⟨g,k,none⟩=false:=h.2.2.frozen k
theorem RowW.set_{w wr:World}{g:Nat}{gs os:List Int}{o:Int}(h:RowW w wr g (gs++o::os))(k:Nat)(hk:gs.length=k)(x:Int):RowW w (wr.setCell ⟨g,k,none⟩ (.int .i64 x)) g ((gs++[x])++os):=by
 subst hk;refine⟨h.1,h.2.1.setCell h.1 _,?_⟩;have:=h.2.2.set_ gs.length (.int .i64 x);have e:((gs++o::os).map (Value.int .i64)).toArray.setIfInBounds gs.length (.int .i64 x)=(((gs++[x])++os).map (Value.int .i64)).toArray:=by rw[<-uD];simp
 rw[e]at this;exact this
theorem RowW.own{w wr:World}{g:Nat}{os:List Int}(h:RowW w wr g os)(n:Nat)(hn:os.length=n)(hm:n<=maxLen):wr.ownsRow w.heap.size 3 1 (.slice (some ⟨g,0,none⟩) n n) n (os.map (Value.int .i64)):=
 ⟨by simp[hn],.inr ⟨g,n,_,rfl,h.1,h.2.2,qA _,hm,by simp[hn],by rw[qS (by simp[hn])]⟩⟩
theorem zOv:∀(ws os:List Int) (op st:Int),(∀(k:Nat) (w o:Int),ws[k]? =some w->os[k]? =some o->0<=w/\w<=1048576/\0<=o)->0<=op->0<=st/\st<=1048576-> op<=(scan ws os op st).1/\(scan ws os op st).1<=op+ws.length/\0<=(scan ws os op st).2/\(scan ws os op st).2<=1048576
 |[],_,op,st,_,h0,h1=>by simp[scan];exact h1
 |_::_,[],op,st,_,h0,h1=>by simp[scan];omega
 |w::ws,o::os,op,st,h,h0,h1=>by
  have h2:=h 0 w o rfl rfl;rw[scan]
  split
  ·have:=zOv ws os (op+1) (if st=0\/w-o<st then w-o else st) (λk w o hw ho=>h (k+1) w o (by simpa using hw) (by simpa using ho)) (by omega) (by split<;>omega);simp only[jG];omega
  ·have:=zOv ws os op st (λk w o hw ho=>h (k+1) w o (by simpa using hw) (by simpa using ho)) (by omega) h1;simp only[jG];omega
theorem pay_nil(s:Int)(os:List Int)(one t:Int):pay s [] os one t=([],t):=by cases os<;>rfl
theorem zPw:∀(ws os:List Int) (op st:Int),0<=st->(0<op->0<st)->0<(scan ws os op st).1->0<(scan ws os op st).2
 |[],_,op,st,_,h,h1=>by simp[scan]at h1⊢;exact h h1
 |_::_,[],op,st,_,h,h1=>by simp[scan]at h1⊢;exact h h1
 |w::ws,o::os,op,st,h0,h,h1=>by
  rw[scan]at h1⊢
  split
  ·rename_i hc;rw[if_pos hc]at h1;exact zPw ws os _ _ (by split<;>omega) (λ_=>by split<;>omega) h1
  ·rename_i hc;rw[if_neg hc]at h1;exact zPw ws os _ _ h0 h h1
theorem zXf(A:Option Addr)(n c:Nat)(ws:List Int)(total:Int)(B:Nat)(w:World)(hl:ws.length=n)(hnc:n<=c)(hm:c<=maxLen)(ht: -9223372036854775808<=total/\total<=9223372036854775807)(hr:Reads w B 1 A n (ws.map (.int .i64)))(hB:B<=w.heap.size):Calls prog 96 #[.int .i64 total,.slice A n c] w λe w'=>zMw w.heap.size (zDj total ws) e w w':=by
 obtain⟨i0,hi,hz0,hz1,hz2⟩:∃i,prog.info? 3=some i/\i.zero=some (.int .i64 0)/\i.size=1/\i.bytes=8:=by
  have h:=zUn;cases hi:prog.info? 3 with
  |none=>rw[hi]at h;simp at h
  |some i=>rw[hi]at h;simp at h;exact⟨i,rfl,h.1,h.2.1,h.2.2⟩
 obtain⟨HR,HL⟩:=uI hr hl;clear hr hl;by_cases h16:16<n
 ·have HF:=uT (show zDj total ws=([],1)by rw[zDj,HL.s,if_pos h16]);go_enter func96,ntmps96
  go_wp2
  go_ret2;rw[HF.s];exact⟨_,rfl,qH _ _ _ _,qC _ _⟩
 ·have h16':n<=16:=by omega
  clear h16;by_cases ht0:total<0
  ·have HF:=uT (zEs total ws n HL.s h16' (by simp[dK];omega));go_enter func96,ntmps96
   go_wp2
   go_ret2;rw[HF.s];exact⟨_,rfl,qH _ _ _ _,qC _ _⟩
  have ht0':0<=total:=by omega
  clear ht0;by_cases ht1:1048576<total
  ·have HF:=uT (zEs total ws n HL.s h16' (by simp[dK];omega));go_enter func96,ntmps96
   go_wp2
   go_ret2;rw[HF.s];exact⟨_,rfl,qH _ _ _ _,qC _ _⟩
  have ht1':total<=1048576:=by omega
  clear ht1 ht;have HIT:=uT (show dK total=true by simp[dK];omega);have hmk:=λW=>dN (P:=prog) 22 3 i0 _ underlying22 hi hz0 .i64 .i64 n n (qA _) (by rw[hz2];omega) (by omega) W
  rw[hz1]at hmk;go_enter func96,ntmps96
  go_wp2
  go_loop [27] (λi=>∃(k:Nat),k<=n/\i= .int .i64 k/\uS ((ws.drop k).all dK=ws.all dK)) (λi=>n-(intOf i).toNat)
  case atStart=>exact⟨0,qL _,rfl,rfl⟩
  case round=>
   obtain⟨k,hk,rfl,HI⟩:=hrel;by_cases hlt:k<n
   ·obtain⟨b,o,z,rfl,_,hz,hc⟩:=dQ HR.s hlt;have HI2:=uT (show(dK z&&(ws.drop (k+1)).all dK)=ws.all dK by have h:=HI.s;rw[cZ _ k z hz,List.all_cons]at h;exact h)
    clear HI hz;by_cases hz0:z<0
    ·have HF:=uT (zEs total ws n HL.s h16' (by rw[List.all_cons,<-HI2.s];simp[dK];omega));go_wp2_with fail;go_ret2;rw[HF.s];exact⟨_,rfl,qH _ _ _ _,qC _ _⟩
    ·by_cases hz1:1048576<z
     ·have HF:=uT (zEs total ws n HL.s h16' (by rw[List.all_cons,<-HI2.s];simp[dK];omega));have hz0':0<=z:=by omega
      clear hz0;go_wp2_with fail;go_ret2;rw[HF.s];exact⟨_,rfl,qH _ _ _ _,qC _ _⟩
     ·have HI3:=uT (show(ws.drop (k+1)).all dK=ws.all dK by
       rw[<-HI2.s];have:dK z=true:=by simp[dK];omega
       rw[this,Bool.true_and])
      have hz0':0<=z:=by omega
      have hz1':z<=1048576:=by omega
      clear hz0 hz1 HI2;go_wp2_with fail
      go_round
      case rel=>exact⟨k+1,by omega,by go_num,HI3.s⟩
      case measure=>simp[intOf];omega
   ·obtain rfl:k=n:=by omega
    have hall:ws.all dK=true:=by have h:=HI.s;rw[qW (by rw[HL.s];omega)]at h;exact h.symm
    obtain⟨HF,HW⟩:=uI (zOt total ws k HL.s h16' (by rw[List.all_cons,HIT.s,hall];rfl)) ((zKj ws).1 hall);have HS0:=uT (yAr total ws ht0' HW.s);clear hall HI HIT;go_wp2_with fail
    go_loopw [0] (λx wr=>∃(t:Int) (os:List Int),x= .int .i64 t/\RowW w wr w.heap.size os/\uS (zLw total ws os t)) (λx _=>(intOf x).toNat)
    case atStart=>
     refine⟨total,_,rfl,⟨qA _,(qC _ _).alloc (qA _) _,?_⟩,HS0.s⟩;have e:((List.replicate ws.length (0:Int)).map (Value.int .i64)).toArray=madeCells #[.int .i64 0] k:=by rw[<-uD,toList_madeCells_one];simp[HL.s]
     rw[e];have:=Blk.new w 3 (madeCells #[.int .i64 0] k);simpa using this
    case round=>
     obtain⟨t,os,rfl,HRW,HS⟩:=hrel;have ht0:=HS.s.2.1;have ht1:=HS.s.2.2.1;obtain⟨HRW',HLO⟩:=uI HRW (show os.length=k from HS.s.1.trans HL.s);have HBD:=uT (show∀(j:Nat) (z o:Int),ws[j]? =some z->os[j]? =some o->0<=z/\z<=1048576/\0<=o/\o<=z from λj z o hz ho=>⟨(HW.s z (qB hz)).1,(HW.s z (qB hz)).2,HS.s.2.2.2.1 j z o hz ho⟩)
     clear HRW;obtain⟨wo,rfl⟩:=kB wr;go_wp2_with fail
     go_loop [9,10,43] (λx y i=>∃(j op:Nat) (st:Int),j<=k/\op<=j/\0<=st/\st<=1048576/\i= .int .i64 j/\x= .int .i64 op/\y= .int .i64 st/\uS (scan (ws.drop j) (os.drop j) op st=scan ws os 0 0)) (λ_ _ i=>k-(intOf i).toNat)
     case atStart=>exact⟨0,0,0,qL _,qA _,by omega,by omega,rfl,rfl,rfl,rfl⟩
     case round=>
      obtain⟨j,op,st,hj,hop,hst0,hst1,rfl,rfl,rfl,HI⟩:=hrel;by_cases hlt:j<k
      ·obtain⟨b,ob,z,rfl,_,hz,hc⟩:=dQ (HR.s.below (HRW'.s.2.1.mono hB)) hlt;obtain⟨o,ho⟩:∃o,os[j]? =some o:=⟨_,qI (by rw[HLO.s];exact hlt)⟩;have hco:=HRW'.s.cell ho;have hbd:=HBD.s j z o hz ho;have HI2:=uT (show scan (z::ws.drop (j+1)) (o::os.drop (j+1)) op st=scan ws os 0 0 by
        have h:=HI.s
        rwa[cZ ws j z hz,cZ os j o ho]at h)
       clear HI hz ho;by_cases hoz:o<z
       ·by_cases hs0:st=0
        ·have HI3:=uT (show scan (ws.drop (j+1)) (os.drop (j+1)) ((op+1:Nat):Int) (z-o)=scan ws os 0 0 by have h:=HI2.s;rw[scan,if_pos hoz,if_pos (.inl hs0)]at h;exact h)
         clear HI2;subst hs0;go_wp2_with fail
         go_round
         case rel=>exact⟨j+1,op+1,z-o,by omega,by omega,by omega,by omega,by go_num,by go_num,rfl,HI3.s⟩
         case measure=>simp[intOf];omega
        ·by_cases hs1:z-o<st
         ·have HI3:=uT (show scan (ws.drop (j+1)) (os.drop (j+1)) ((op+1:Nat):Int) (z-o)=scan ws os 0 0 by have h:=HI2.s;rw[scan,if_pos hoz,if_pos (.inr hs1)]at h;exact h)
          clear HI2;have hs0':0<st:=by omega
          go_wp2_with fail
          go_round
          case rel=>exact⟨j+1,op+1,z-o,by omega,by omega,by omega,by omega,by go_num,by go_num,rfl,HI3.s⟩
          case measure=>simp[intOf];omega
         ·have HI3:=uT (show scan (ws.drop (j+1)) (os.drop (j+1)) ((op+1:Nat):Int) st=scan ws os 0 0 by have h:=HI2.s;rw[scan,if_pos hoz,if_neg (by omega)]at h;exact h)
          clear HI2;have hs0':0<st:=by omega
          go_wp2_with fail
          go_round
          case rel=>exact⟨j+1,op+1,st,by omega,by omega,by omega,by omega,by go_num,by go_num,rfl,HI3.s⟩
          case measure=>simp[intOf];omega
       ·have HI3:=uT (show scan (ws.drop (j+1)) (os.drop (j+1)) op st=scan ws os 0 0 by have h:=HI2.s;rw[scan,if_neg hoz]at h;exact h)
        clear HI2;go_wp2_with fail
        go_round
        case rel=>exact⟨j+1,op,st,by omega,by omega,by omega,by omega,by go_num,rfl,rfl,HI3.s⟩
        case measure=>simp[intOf];omega
      ·obtain rfl:j=k:=by omega
       have HSC:=uT (show((op:Int),st)=scan ws os 0 0 by have h:=HI.s;rw[qW (by rw[HL.s];omega)]at h;exact h)
       clear HI;obtain⟨HOP,HST⟩:=uI (show(scan ws os 0 0).1=op by rw[<-HSC.s]) (show(scan ws os 0 0).2=st by rw[<-HSC.s]);by_cases hdone:op=0\/t=0
       ·have HD:=uT (yEn total ws os t ht0' HW.s HS.s (by rw[HOP.s];omega));have HE:∀W,W=wo->zMw w.heap.size (zDj total ws) (.returned (.tuple #[.slice (some ⟨w.heap.size,0,none⟩) j j,.int .i64 0])) w W:=by
         rintro W rfl;rw[HF.s];refine⟨_,rfl,?_,HRW'.s.2.1⟩;have h:=HRW'.s.own j HLO.s (by unfold maxLen;omega);rw[HD.s]at h;have e:(gives total ws).length=j:=by rw[<-HD.s];exact HLO.s
         dsimp only;rw[e];exact h
        have HEH:=uT HE;clear HE HD;by_cases hop0:op=0
        ·subst hop0;go_wp2_with fail;go_ret2;exact HEH.s _ rfl
        ·have ht00:t=0:=by omega
         subst ht00;have hop1:0<op:=by omega
         clear hdone hop0;go_wp2_with fail;go_ret2;exact HEH.s _ rfl
       ·have hop1:0<op:=by omega
        have htp:0<t:=by omega
        clear hdone;obtain⟨stp,hstp⟩:∃stp:Int,stp=if t<st*op then t/op else st:=⟨_,rfl⟩
        have hmul:0<=st*(op:Int)/\st*(op:Int)<=16*1048576:=by refine⟨Int.mul_nonneg hst0 (by omega),?_⟩;have h1:=Int.mul_le_mul hst1 (show(op:Int)<=16 by omega) (by omega) (by omega);omega
        have hdiv:0<=t/(op:Int)/\t/(op:Int)<=1048576:=by refine⟨Int.ediv_nonneg ht0 (by omega),?_⟩;exact Int.le_trans (Int.ediv_le_self _ ht0) (by omega)
        have hsb:0<=stp/\stp<=1048576:=by
         rw[hstp];split
         ·exact hdiv
         ·exact⟨hst0,hst1⟩
        obtain⟨HNX,HSP⟩:=uI (yEz total ws os t stp ht0' HW.s HS.s (by rw[HOP.s];omega) (by omega) (by rw[HOP.s,HST.s];exact hstp)) hstp;obtain⟨mu,hmu⟩:=kB (st*(op:Int));obtain⟨dv,hdv⟩:=kB (t/(op:Int));have HSTP:=uT (show 0<st by have h:=zPw ws os 0 0 (by omega) (by omega) (by rw[HOP.s];omega);rwa[HST.s]at h);clear hstp HSC HOP HST;have htb:(t==0)=false:=by simp;omega
        have hob:((op:Int)==0)=false:=by simp;omega
        have hot:¬ (((op:Int)==0)=true\/(t==0)=true):=by rw[htb,hob];simp
        have hstp0:=HSTP.s;have htt:=HS.s.2.2.1;obtain⟨on0,hon0⟩:=kB (if stp=0 then t else 0);have hob0:0<=on0/\on0<=1048576:=by rw[hon0];split<;>omega
        rw[<-hon0]at HNX;have HON:=uT hon0;clear hon0;go_upto_if 86 with fail
        go_cut [10]from 75 to 89 (λv W=>v= .int .i64 stp/\W=wo)
        case first=>
         by_cases hlm:t<st*(op:Int)
         ·have hz:=HSP.s;rw[if_pos hlm]at hz;go_wp2_with fail;go_meet;exact⟨by rw[hz],rfl⟩
         ·have hz:=HSP.s;rw[if_neg hlm]at hz;go_wp2_with fail;go_meet;exact⟨by rw[hz],rfl⟩
        case rest=>
         obtain⟨rfl,rfl⟩:=hcut;clear htb hob hot hmul hdiv hmu hdv HSP;go_upto_if 91 with fail
         go_cut [13]from 75 to 92 (λv W=>v= .int .i64 on0/\W=wc)
         case first=>
          by_cases hs0:stp=0
          ·have hz:=HON.s;rw[if_pos hs0]at hz;have hb:(stp==0)=true:=by simpa using hs0
           clear hs0;go_wp2_with fail;go_meet;exact⟨by rw[hz],rfl⟩
          ·have hz:=HON.s;rw[if_neg hs0]at hz;have hb:(stp==0)=false:=by simpa using hs0
           clear hs0;go_wp2_with fail;go_meet;exact⟨by rw[hz],rfl⟩
         case rest=>
          obtain⟨rfl,rfl⟩:=hcut;go_wp2_with fail;have HP0:=uT (show zLw total ws (pay stp ws os on0 t).1 (pay stp ws os on0 t).2/\(pay stp ws os on0 t).2<t from HNX.s)
          go_loopw [0,13,95] (λx y i wx=>∃(m:Nat) (t1 one:Int) (gs:List Int),m<=j/\i= .int .i64 m/\x= .int .i64 t1/\y= .int .i64 one/\t-1048576*m<=t1/\t1<=t/\0<=one/\one<=1048576/\gs.length=m/\RowW w wx w.heap.size (gs++os.drop m)/\uS ((gs++(pay stp (ws.drop m) (os.drop m) one t1).1,(pay stp (ws.drop m) (os.drop m) one t1).2)=pay stp ws os on0 t)) (λ_ _ i _=>j-(intOf i).toNat)
          case atStart=>exact⟨0,t,on0,[],qL _,rfl,rfl,rfl,by omega,by omega,by omega,by omega,rfl,HRW'.s,rfl⟩
          case round=>
           obtain⟨m,t1,one,gs,hmj,rfl,rfl,rfl,ht2,ht3,hone0,hone1,hgs,HRX,HI⟩:=hrel;by_cases hlt:m<j
           ·obtain⟨b,ob,z,rfl,_,hz,hc⟩:=dQ (HR.s.below (HRX.2.1.mono hB)) hlt;obtain⟨o,ho⟩:∃o,os[m]? =some o:=⟨_,qI (by rw[HLO.s];exact hlt)⟩;have hdo:=cZ os m o ho;have hco:=HRX.cell (k:=m) (o:=o) (by rw[uG (by omega),hgs,Nat.sub_self,hdo];rfl);have hfr:=HRX.frozen m;have hbd:=HBD.s m z o hz ho;have HI2:=uT (show(gs++(pay stp (z::ws.drop (m+1)) (o::os.drop (m+1)) one t1).1,(pay stp (z::ws.drop (m+1)) (o::os.drop (m+1)) one t1).2)=pay stp ws os on0 t by
             have h:=HI.s
             rwa[cZ ws m z hz,hdo]at h)
            have HRX1:=uT (show RowW w wr w.heap.size (gs++o::os.drop (m+1))by rw[<-hdo];exact HRX);have HRX2:=uT (show RowW w wr w.heap.size ((gs++[o])++os.drop (m+1))by simpa using HRX1.s);have hgl:∀x:Int,(gs++[x]).length=m+1:=λx=>by simp[hgs]
            clear HI hz ho HRX hdo;by_cases hoz:o<z
            ·by_cases hpos:0<stp
             ·have HI3:=uT (show((gs++[o+stp])++(pay stp (ws.drop (m+1)) (os.drop (m+1)) one (t1-stp)).1,(pay stp (ws.drop (m+1)) (os.drop (m+1)) one (t1-stp)).2)=pay stp ws os on0 t by have h:=HI2.s;rw[pay,if_pos hoz,if_pos hpos]at h;simpa using h)
              clear HI2;have HRX3:=uT (HRX1.s.set_ m hgs (o+stp));clear HRX1 HRX2;go_wp2_with fail;go_roundw
              case rel=>exact⟨m+1,(t1-stp),one,gs++[o+stp],by omega,by go_num,rfl,rfl,by omega,by omega,by omega,by omega,hgl _,HRX3.s,HI3.s⟩
              case measure=>simp[intOf];omega
             ·by_cases hon:0<one
              ·skip
               have HI3:=uT (show((gs++[o+1])++(pay stp (ws.drop (m+1)) (os.drop (m+1)) (one-1) (t1-1)).1,(pay stp (ws.drop (m+1)) (os.drop (m+1)) (one-1) (t1-1)).2)=pay stp ws os on0 t by have h:=HI2.s;rw[pay,if_pos hoz,if_neg (by omega),if_pos hon]at h;simpa using h)
               clear HI2;have HRX3:=uT (HRX1.s.set_ m hgs (o+1));clear HRX1 HRX2;go_wp2_with fail;go_roundw
               case rel=>exact⟨m+1,(t1-1),(one-1),gs++[o+1],by omega,by go_num,rfl,rfl,by omega,by omega,by omega,by omega,hgl _,HRX3.s,HI3.s⟩
               case measure=>simp[intOf];omega
              ·skip
               have HI3:=uT (show((gs++[o])++(pay stp (ws.drop (m+1)) (os.drop (m+1)) one t1).1,(pay stp (ws.drop (m+1)) (os.drop (m+1)) one t1).2)=pay stp ws os on0 t by have h:=HI2.s;rw[pay,if_pos hoz,if_neg (by omega),if_neg hon]at h;simpa using h)
               clear HI2;have HRX3:=uT HRX2.s;clear HRX1 HRX2;go_wp2_with fail;go_roundw
               case rel=>exact⟨m+1,t1,one,gs++[o],by omega,by go_num,rfl,rfl,by omega,by omega,by omega,by omega,hgl _,HRX3.s,HI3.s⟩
               case measure=>simp[intOf];omega
            ·skip
             have HI3:=uT (show((gs++[o])++(pay stp (ws.drop (m+1)) (os.drop (m+1)) one t1).1,(pay stp (ws.drop (m+1)) (os.drop (m+1)) one t1).2)=pay stp ws os on0 t by have h:=HI2.s;rw[pay,if_neg hoz]at h;simpa using h)
             clear HI2;have HRX3:=uT HRX2.s;clear HRX1 HRX2;go_wp2_with fail;go_roundw
             case rel=>exact⟨m+1,t1,one,gs++[o],by omega,by go_num,rfl,rfl,by omega,by omega,by omega,by omega,hgl _,HRX3.s,HI3.s⟩
             case measure=>simp[intOf];omega
           ·obtain rfl:m=j:=by omega
            have HFIN:=uT (show(gs,t1)=pay stp ws os on0 t by have h:=HI.s;rw[qW (l:=ws) (by rw[HL.s];omega),pay_nil,jR]at h;exact h)
            have HRY:=uT (show RowW w wr w.heap.size gs by have h:=HRX;rw[qW (l:=os) (by rw[HLO.s];omega),jR]at h;exact h)
            have HRD:=uT (show zLw total ws gs t1/\t1<t by have h:=HP0.s;rw[<-HFIN.s]at h;exact h);clear HI HRX HFIN hsb;go_wp2_with fail;go_roundw
            case rel=>exact⟨t1,gs,rfl,HRY.s,HRD.s.1⟩
            case measure=>have h:=HRD.s.2;simp[intOf];omega
end Go.Proofs.YtbolcebmbpepdaaGreatDoor
