/- Contracts. Conditions: those each states. -/
import Derived.Test.YtbolcebmbpepdaaGreatDoorM01
import Derived.Test.YtbolcebmbpepdaaGreatDoorM02
namespace Go.Proofs.YtbolcebmbpepdaaGreatDoor
set_option maxRecDepth 100000
set_option maxHeartbeats 8000000
set_option linter.all false
open Go.RowKit Tryz
def cE:List Int->Int->Int
 |[],_=>0
 |w::l,c=>min w c+cE l c
def fU(c:Int):Int->List Int->List Int
 |_,[]=>[]
 |r,w::l=>if c<w/\0<r then(c+1)::fU c (r-1) l else min w c::fU c r l
def dK(z:Int):Bool:=decide (0<=z/\z<=1048576)
def zKv(total:Int)(ws:List Int)(c:Int):Prop:=0<=c/\cE ws c<=total/\(total<cE ws (c+1)\/∀w∈ws,w<=c)
def zGd(total:Int)(ws:List Int):Nat->Nat
 |0=>0
 |n+1=>if cE ws ((n+1:Nat):Int)<=total then n+1 else zGd total ws n
def gives(total:Int)(ws:List Int):List Int:=fU (zGd total ws 1048576) (total-cE ws (zGd total ws 1048576)) ws
def zDj(total:Int)(ws:List Int):List Int×Int:=
 if 16<ws.length then([],1)else if(dK total&&ws.all dK)then(gives total ws,0)else([],2)
theorem zPd(ws:List Int)(c d:Int)(h:c<=d):cE ws c<=cE ws d:=by
 induction ws with
 |nil=>exact Int.le_refl _
 |cons w l ih=>simp only[cE];omega
theorem zRb(ws:List Int)(c:Int)(h:∀w∈ws,w<=c)(d:Int):cE ws d<=cE ws c:=by
 induction ws with
 |nil=>exact Int.le_refl _
 |cons w l ih=>have:=h w (by simp);have:=ih (λy hy=>h y (by simp[hy]));simp only[cE];omega
theorem zVs(ws:List Int)(h:∀w∈ws,0<=w/\w<=1048576)(c:Int)(hc:0<=c):0<=cE ws c/\cE ws c<=1048576*ws.length:=by
 induction ws with
 |nil=>simp[cE]
 |cons w l ih=>have h1:=h w (by simp);have h2:=ih (λy hy=>h y (by simp[hy]));simp only[cE,jG];omega
theorem zKe(ws:List Int)(h:∀w∈ws,0<=w):cE ws 0=0:=by
 induction ws with
 |nil=>rfl
 |cons w l ih=>have h1:=h w (by simp);have h2:=ih (λy hy=>h y (by simp[hy]));simp only[cE,h2];omega
theorem zLn(ws:List Int)(c r:Int)(h:∀w∈ws,w<=c):fU c r ws=ws:=by
 induction ws generalizing r with
 |nil=>rfl
 |cons w l ih=>
  have h1:=h w (by simp);rw[fU,if_neg (by omega),ih r λy hy=>h y (by simp[hy])]
  congr 1
  omega
theorem zZo(total:Int)(ws:List Int)(c d:Int)(hc:zKv total ws c)(hd:zKv total ws d):fU c (total-cE ws c) ws=fU d (total-cE ws d) ws:=by
 obtain⟨c0,c1,c2⟩:=hc;obtain⟨d0,d1,d2⟩:=hd;rcases c2 with c2|c2<;>rcases d2 with d2|d2
 ·have:c=d:=by
   rcases Int.lt_trichotomy c d with h|h|h
   ·have:=zPd ws (c+1) d (by omega);omega
   ·exact h
   ·have:=zPd ws (d+1) c (by omega);omega
  rw[this]
 ·have:=zRb ws d d2 (c+1);omega
 ·have:=zRb ws c c2 (d+1);omega
 ·rw[zLn ws c _ c2,zLn ws d _ d2]
theorem zOy(total:Int)(ws:List Int)(ht:0<=total)(h:∀w∈ws,0<=w/\w<=1048576):zKv total ws (zGd total ws 1048576):=by
 have H:∀n,cE ws (zGd total ws n)<=total/\(zGd total ws n=n\/total<cE ws ((zGd total ws n:Int)+1)):=by
  intro n
  induction n with
  |zero=>exact⟨by rw[zGd];have:=zKe ws (λw hw=>(h w hw).1);simpa[this]using ht,.inl rfl⟩
  |succ n ih=>
   rw[zGd];by_cases hc:cE ws ((n+1:Nat):Int)<=total
   ·rw[if_pos hc];exact⟨hc,.inl rfl⟩
   ·rw[if_neg hc];refine⟨ih.1,.inr ?_⟩;rcases ih.2 with e|e
    ·rw[e];simpa using Int.not_le.1 hc
    ·exact e
 obtain⟨h1,h2⟩:=H 1048576;refine⟨by omega,h1,?_⟩;rcases h2 with e|e
 ·right
  intro w hw;rw[e];exact(h w hw).2
 ·exact .inl e
theorem zHk(total:Int)(ws:List Int)(ht:0<=total)(h:∀w∈ws,0<=w/\w<=1048576)(c:Int)(hc:zKv total ws c):fU c (total-cE ws c) ws=gives total ws:=
 zZo total ws _ _ hc (zOy total ws ht h)
theorem zIj(c r:Int)(ws:List Int):(fU c r ws).length=ws.length:=by
 induction ws generalizing r with
 |nil=>rfl
 |cons w l ih=>rw[fU];split<;>simp[ih]
theorem zKj(ws:List Int):ws.all dK=true↔∀w∈ws,0<=w/\w<=1048576:=by simp[uE,dK]
def opens(ws:List Int)(c:Int):Nat:=(ws.filter λw=>decide (c<w)).length
theorem zIg(w:Int)(ws:List Int)(c:Int):opens (w::ws) c=opens ws c+if c<w then 1 else 0:=by unfold opens;by_cases h:c<w<;>simp[h]
theorem zKm(ws:List Int)(c s:Int)(hs:0<=s)(h:∀w∈ws,c<w->c+s<=w):cE ws (c+s)=cE ws c+s*opens ws c:=by
 induction ws with
 |nil=>simp[cE,opens]
 |cons w l ih=>
  have h1:=h w (by simp);have h2:=ih (λy hy=>h y (by simp[hy]));rw[zIg];simp only[cE,h2];by_cases hw:c<w
  ·have:=h1 hw;rw[if_pos hw];rw[Int.natCast_add,Int.mul_add];simp only[Int.natCast_one,Int.mul_one];omega
  ·rw[if_neg hw];simp only[Nat.add_zero];omega
theorem yFb(ws:List Int)(c:Int)(h:opens ws c=0):∀w∈ws,w<=c:=by intro w hw;have:(ws.filter λw=>decide (c<w))=[]:=uC h;have h2:=List.filter_eq_nil_iff.1 this w hw;simp at h2;exact h2
def scan:List Int->List Int->Int->Int->Int×Int
 |w::ws,o::os,op,st=>if o<w then scan ws os (op+1) (if st=0\/w-o<st then w-o else st)else scan ws os op st
 |_,_,op,st=>(op,st)
def pay(s:Int):List Int->List Int->Int->Int->List Int×Int
 |w::ws,o::os,one,t=>
  if o<w then
   if 0<s then let r:=pay s ws os one (t-s);((o+s)::r.1,r.2)
   else if 0<one then let r:=pay s ws os (one-1) (t-1);((o+1)::r.1,r.2)
   else let r:=pay s ws os one t;(o::r.1,r.2)
  else let r:=pay s ws os one t;(o::r.1,r.2)
 |_,_,_,t=>([],t)
def zCj(ws:List Int)(c:Int):List Int:=ws.map λw=>min w c
theorem zHq(w:Int)(ws:List Int)(c:Int):zCj (w::ws) c=min w c::zCj ws c:=rfl
theorem zVf(ws:List Int)(c:Int):∀(op st:Int),0<=op->0<=st->(op=0↔st=0)-> (scan ws (zCj ws c) op st).1=op+opens ws c/\0<=(scan ws (zCj ws c) op st).2/\ (op+opens ws c=0↔(scan ws (zCj ws c) op st).2=0)/\(0<st->(scan ws (zCj ws c) op st).2<=st)/\∀w∈ws,c<w->c+(scan ws (zCj ws c) op st).2<=w:=by
 induction ws with
 |nil=>intro op st h0 h1 h2;simp[scan,opens];exact⟨h1,h2⟩
 |cons w l ih=>
  intro op st h0 h1 h2;rw[zHq,zIg];by_cases hc:c<w
  ·have e:min w c=c:=by omega
   rw[e,scan,if_pos hc,if_pos hc];have h3:0<(if st=0\/w-c<st then w-c else st):=by split<;>omega
   obtain⟨i1,i2,i3,i4,i5⟩:=ih (op+1) (if st=0\/w-c<st then w-c else st) (by omega) (by omega) (by omega);have h4:=i4 h3;have h5:(if st=0\/w-c<st then w-c else st)<=w-c:=by split<;>omega
   have h6:0<st->(if st=0\/w-c<st then w-c else st)<=st:=by intro h;split<;>omega
   refine⟨by omega,i2,?_,λh=>by have:=h6 h;omega,?_⟩
   ·constructor
    ·intro h;omega
    ·intro h;have:=i3.2 h;omega
   ·intro x hx hcx;rcases jD.1 hx with rfl|hx
    ·omega
    ·exact i5 x hx hcx
  ·have e:min w c=w:=by omega
   rw[e,scan,if_neg (by omega),if_neg hc];obtain⟨i1,i2,i3,i4,i5⟩:=ih op st h0 h1 h2;refine⟨by simpa using i1,i2,by simpa using i3,i4,?_⟩;intro x hx hcx;rcases jD.1 hx with rfl|hx
   ·exact absurd hcx hc
   ·exact i5 x hx hcx
theorem pay_step(ws:List Int)(c s:Int)(hs:0<s)(h:∀w∈ws,c<w->c+s<=w):∀one t,pay s ws (zCj ws c) one t=(zCj ws (c+s),t-s*opens ws c):=by
 induction ws with
 |nil=>intro one t;simp[pay,zCj,opens]
 |cons w l ih=>
  intro one t;have h1:=h w (by simp);have i:=ih (λy hy=>h y (by simp[hy]));rw[zHq,zHq,zIg];by_cases hc:c<w
  ·have:=h1 hc;have e:min w c=c:=by omega
   have e2:min w (c+s)=c+s:=by omega
   rw[e,e2,pay,if_pos hc,if_pos hs,if_pos hc,i];simp only[Prod.mk.injEq,true_and];rw[Int.natCast_add,Int.mul_add];simp only[Int.natCast_one,Int.mul_one];omega
  ·have e:min w c=w:=by omega
   have e2:min w (c+s)=w:=by omega
   rw[e,e2,pay,if_neg (by omega),if_neg hc,i];simp
theorem pay_one(ws:List Int)(c:Int):∀r t,0<=r->pay 0 ws (zCj ws c) r t=(fU c r ws,t-min r (opens ws c)):=by
 induction ws with
 |nil=>intro r t hr;simp[pay,opens,fU];omega
 |cons w l ih=>
  intro r t hr;rw[zHq,zIg,fU];by_cases hc:c<w
  ·have e:min w c=c:=by omega
   by_cases hr0:0<r
   ·rw[e,pay,if_pos hc,if_neg (by omega),if_pos hr0,if_pos hc,if_pos ⟨hc,hr0⟩,ih _ _ (by omega)];simp only[Prod.mk.injEq,true_and];omega
   ·rw[e,pay,if_pos hc,if_neg (by omega),if_neg hr0,if_pos hc,if_neg (by omega),ih _ _ hr];simp only[Prod.mk.injEq,true_and];omega
  ·have e:min w c=w:=by omega
   rw[e,pay,if_neg (by omega),if_neg hc,if_neg (by omega),ih _ _ hr];simp
theorem yAe(ws:List Int)(c:Int):fU c 0 ws=zCj ws c:=by
 induction ws with
 |nil=>rfl
 |cons w l ih=>rw[fU,if_neg (by omega),ih,zHq]
def zLw(total:Int)(ws os:List Int)(t:Int):Prop:=
 os.length=ws.length/\0<=t/\t<=total/\(∀(k:Nat) (w o:Int),ws[k]? =some w->os[k]? =some o->0<=o/\o<=w)/\
 ((∃c,0<=c/\os=zCj ws c/\t=total-cE ws c)\/(t=0/\os=gives total ws))
theorem zPm(ws:List Int)(hw:∀w∈ws,0<=w/\w<=1048576)(c:Int)(hc:0<=c)(k:Nat)(w o:Int)(h:ws[k]? =some w)(h2:(zCj ws c)[k]? =some o):0<=o/\o<=w:=by have:=hw w (qB h);rw[zCj,qV,h]at h2;injection h2 with h2;subst h2;show 0<=min w c/\min w c<=w;omega
theorem zMl(ws:List Int)(hw:∀w∈ws,0<=w/\w<=1048576)(c:Int)(hc:0<=c):∀(r:Int) (k:Nat) (w o:Int),ws[k]? =some w->(fU c r ws)[k]? =some o->0<=o/\o<=w:=by
 induction ws with
 |nil=>intro r k w o h;simp at h
 |cons x l ih=>
  intro r k w o h h2;have hx:=hw x (by simp);have i:=ih (λy hy=>hw y (by simp[hy]));rw[fU]at h2;cases k with
  |zero=>
   simp at h;subst h
   split at h2
   ·simp at h2;omega
   ·simp at h2;omega
  |succ k=>
   simp at h
   split at h2
   ·exact i _ k w o h (by simpa using h2)
   ·exact i _ k w o h (by simpa using h2)
theorem yAr(total:Int)(ws:List Int)(ht:0<=total)(hw:∀w∈ws,0<=w/\w<=1048576):zLw total ws (List.replicate ws.length 0) total:=by
 have e:List.replicate ws.length (0:Int)=zCj ws 0:=by unfold zCj;rw[<-List.map_const'];refine(List.map_congr_left λw h=> ?_);have:=hw w h;show 0=min w 0;omega
 rw[e];exact⟨by simp[zCj],ht,Int.le_refl _,zPm ws hw 0 (Int.le_refl _),.inl ⟨0,Int.le_refl _,rfl,by rw[zKe ws λw h=>(hw w h).1];omega⟩⟩
theorem yEn(total:Int)(ws os:List Int)(t:Int)(ht:0<=total)(hw:∀w∈ws,0<=w/\w<=1048576)(h:zLw total ws os t)(he:(scan ws os 0 0).1=0\/t=0):os=gives total ws:=by
 obtain⟨_,t0,_,_,⟨c,c0,rfl,rfl⟩|⟨_,rfl⟩⟩:=h
 ·obtain⟨s1,s2,s3,_,s5⟩:=zVf ws c 0 0 (Int.le_refl _) (Int.le_refl _) (by simp);by_cases ho:opens ws c=0
  ·have hall:=yFb ws c ho;rw[<-zHk total ws ht hw c ⟨c0,by omega,.inr hall⟩,zLn ws c _ hall];unfold zCj
   conv=>rhs;rw[<-List.map_id ws]
   exact List.map_congr_left λw h=>by have:=hall w h;show min w c=w;omega
  ·have he:total-cE ws c=0:=by
    rcases he with he|he
    ·omega
    ·exact he
   have hst:0<(scan ws (zCj ws c) 0 0).2:=by
    rcases Int.lt_or_eq_of_le s2 with h|h
    ·exact h
    ·have:=s3.2 h.symm;omega
   have h1:=zKm ws c 1 (by omega) (λw hw hc=>by omega);rw[<-zHk total ws ht hw c ⟨c0,by omega,.inl (by omega)⟩,he,yAe]
 ·rfl
theorem yFm(t o s:Int)(ho:0<o)(ht:0<t)(hs:0<s)(h:t<s*o):0<=t/o/\t/o<=s/\t/o*o<=t/\t<(t/o+1)*o:=by
 have h1:=Int.ediv_mul_le t (Int.ne_of_gt ho);have h2:=Int.lt_ediv_add_one_mul_self t ho;have h3:=Int.ediv_nonneg (Int.le_of_lt ht) (Int.le_of_lt ho);refine⟨h3,?_,h1,h2⟩;refine Int.not_lt.1 λhc=> ?_
 have:=Int.mul_le_mul_of_nonneg_right (show s<=t/o by omega) (Int.le_of_lt ho);omega
theorem yEz(total:Int)(ws os:List Int)(t st:Int)(ht:0<=total)(hw:∀w∈ws,0<=w/\w<=1048576)(h:zLw total ws os t)(h1:(scan ws os 0 0).1≠0)(h2:t≠0)(hst:st=if t<(scan ws os 0 0).2*(scan ws os 0 0).1 then t/(scan ws os 0 0).1 else(scan ws os 0 0).2):zLw total ws (pay st ws os (if st=0 then t else 0) t).1 (pay st ws os (if st=0 then t else 0) t).2/\(pay st ws os (if st=0 then t else 0) t).2<t:=by
 obtain⟨hlen,t0,t1,hbb,⟨c,c0,rfl,rfl⟩|⟨h0,rfl⟩⟩:=h
 ·obtain⟨s1,s2,s3,_,s5⟩:=zVf ws c 0 0 (Int.le_refl _) (Int.le_refl _) (by simp);rw[Int.zero_add]at s1 s3;obtain⟨g,hg⟩:∃g,(scan ws (zCj ws c) 0 0).2=g:=⟨_,rfl⟩;rw[s1]at h1 hst;rw[hg]at s2 s3 s5 hst;have ho:(0:Int)<opens ws c:=by omega
  have hg0:0<g:=by
   rcases Int.lt_or_eq_of_le s2 with h|h
   ·exact h
   ·have:=s3.2 h.symm;omega
  have hsg:0<=st/\st<=g/\st*opens ws c<=total-cE ws c/\(st=0->total-cE ws c<opens ws c):=by
   subst hst
   split
   ·rename_i hlt;have:=yFm _ _ _ ho (by omega) hg0 hlt;refine⟨this.1,this.2.1,this.2.2.1,λe=> ?_⟩;have h4:=this.2.2.2;rw[e]at h4;omega
   ·exact⟨s2,Int.le_refl _,by omega,by omega⟩
  by_cases hs0:st=0
  ·subst hs0;rw[if_pos rfl,pay_one ws c _ _ t0];have h4:=hsg.2.2.2 rfl;have hl:cE ws (c+1)=cE ws c+1*opens ws c:=zKm ws c 1 (by omega) (λw hw hc=>by omega);have hgv:=zHk total ws ht hw c ⟨c0,by omega,.inl (by omega)⟩;have e0:(total-cE ws c)-min (total-cE ws c) (opens ws c)=0:=by omega
   refine⟨⟨by rw[zIj],by dsimp only;omega,by dsimp only;omega,zMl ws hw c c0 _,.inr ⟨e0,hgv⟩⟩,by dsimp only;omega⟩
  ·have hs:0<st:=by omega
   have hall:∀w∈ws,c<w->c+st<=w:=λw hw hc=>by have:=s5 w hw hc;omega
   rw[pay_step ws c st hs hall];have hl:=zKm ws c st (by omega) hall;have hpos:0<st*opens ws c:=Int.mul_pos hs ho;refine⟨⟨by simp[zCj],by dsimp only;omega,by dsimp only;omega,zPm ws hw _ (by omega),.inl ⟨c+st,by omega,rfl,by dsimp only;omega⟩⟩,by dsimp only;omega⟩
 ·exact absurd h0 h2
def zDq:List Int->Int
 |[]=>0
 |x::l=>x+zDq l
theorem zYv:∀(l:List Int) (i:Nat) (x y:Int),l[i]? =some x->zDq (l.set i y)=zDq l-x+y
 |[],i,x,y,h=>by simp at h
 |z::l,0,x,y,h=>by simp at h;subst h;simp only[List.set_cons_zero,zDq];omega
 |z::l,i+1,x,y,h=>by simp at h;simp only[List.set_cons_succ,zDq,zYv l i x y h];omega
theorem zPb:∀(l:List Int),(∀x∈l,0<=x)->0<=zDq l
 |[],_=>Int.le_refl _
 |x::l,h=>by have:=h x (by simp);have:=zPb l (λy hy=>h y (by simp[hy]));simp only[zDq];omega
theorem zLy:∀(l:List Int),(∀x∈l,0<=x)->∀x∈l,x<=zDq l
 |[],_,x,hx=>by cases hx
 |y::l,h,x,hx=>by
  have h0:=h y (by simp);have h1:=zPb l (λy hy=>h y (by simp[hy]));rcases jD.1 hx with rfl|hx
  ·simp only[zDq];omega
  ·have:=zLy l (λy hy=>h y (by simp[hy])) x hx;simp only[zDq];omega
theorem yDm(ws:List Int)(c:Int):∀r,0<=r->zDq (fU c r ws)<=cE ws c+r:=by
 induction ws with
 |nil=>intro r hr;simp[fU,zDq,cE];omega
 |cons w l ih=>
  intro r hr;rw[fU]
  split
  ·have:=ih (r-1) (by omega);simp only[zDq,cE];omega
  ·have:=ih r hr;simp only[zDq,cE];omega
theorem zFf(total:Int)(ws:List Int)(ht:0<=total)(hw:∀w∈ws,0<=w/\w<=1048576):(gives total ws).length=ws.length/\(∀x∈gives total ws,0<=x/\x<=1048576)/\zDq (gives total ws)<=total:=by
 have hl:=zOy total ws ht hw;refine⟨zIj _ _ _,λx hx=> ?_,?_⟩
 ·obtain⟨k,hk⟩:=List.getElem?_of_mem hx;have hk2:k<ws.length:=by have:=(qK.1 hk).1;unfold gives at this;rw[zIj]at this;exact this
  have h1:=zMl ws hw _ hl.1 _ k _ x (qI hk2) hk;have h2:=hw _ (List.getElem_mem hk2);omega
 ·have h1:=yDm ws (zGd total ws 1048576) (total-cE ws (zGd total ws 1048576)) (by have:=hl.2.1;omega);unfold gives;omega
theorem zRh(total most:Int)(nb:Nat)(h1:0<=total/\total<=1048576)(h2:0<=most/\most<=1048576)(h3:nb<=8):zDj total (List.replicate nb most)=(gives total (List.replicate nb most),0):=by unfold zDj;rw[if_neg (by rw[jB];omega),if_pos];rw[qT];refine⟨by unfold dK;simpa using h1,(zKj _).2 λw hw=> ?_⟩;have:=jT hw;omega
structure BkS where
 round:Int
 reserve:Int
 all:Int
 wants:List Int
 granted:List Int
 quota:List Int
def BkS.due(s:BkS)(i:Nat):Int:=min (s.wants.getD i 0-s.granted.getD i 0) (s.quota.getD i 0)
def zEq(s:BkS)(i:Nat):BkS:={s with granted:=s.granted.set i (s.granted.getD i 0+s.due i),quota:=s.quota.set i (s.quota.getD i 0-s.due i),reserve:=s.reserve-s.due i}
def rnd(s:BkS):Nat->BkS
 |0=>s
 |k+1=>zEq (rnd s k) k
def zEt(most:Int)(s:BkS):BkS:={s with quota:=gives s.reserve (List.replicate s.wants.length most)}
def fR(most ticks:Int)(s:BkS):BkS×(List Int×Int):=
 let s1:=if s.round%ticks=0 then zEt most s else s
 let s2:=rnd {s1 with round:=s.round+1} s.wants.length
 (s2,s2.granted,if s.round%ticks=0 then s.reserve else-1)
def zCr(s:BkS)(n:Int):BkS:={s with reserve:=s.reserve+n,all:=s.all+n}
def zCs(s:BkS)(who:Nat)(n:Int):BkS:={s with wants:=s.wants.set who (max (s.wants.getD who 0) n)}
structure BkS.ok(s:BkS)(nb:Nat)(K:Int):Prop where
 lw:s.wants.length=nb
 lg:s.granted.length=nb
 lq:s.quota.length=nb
 rd:0<=s.round/\s.round<=K
 res:0<=s.reserve/\s.reserve<=s.all/\s.all<=1048576
 w:∀x∈s.wants,0<=x/\x<=1048576
 g:∀x∈s.granted,0<=x
 gw:∀(i:Nat) x y,s.granted[i]? =some x->s.wants[i]? =some y->x<=y
 q:∀x∈s.quota,0<=x
 qs:zDq s.quota<=s.reserve
theorem getD_of{l:List Int}{i:Nat}{x:Int}(h:l[i]? =some x):l.getD i 0=x:=by simp[qG,h]
theorem bX{l:List Int}{i n:Nat}(hl:l.length=n)(hi:i<n):l[i]? =some (l.getD i 0):=by rw[qG,qI (by omega)];rfl
theorem BkS.ok.due_{s:BkS}{nb:Nat}{K:Int}(h:s.ok nb K){i:Nat}(hi:i<nb):0<=s.due i/\s.due i<=s.quota.getD i 0/\s.due i<=s.wants.getD i 0-s.granted.getD i 0/\s.due i<=s.reserve:=by have h1:=h.gw i _ _ (bX h.lg hi) (bX h.lw hi);have h2:=h.q _ (qB (bX h.lq hi));have h3:=zLy _ h.q _ (qB (bX h.lq hi));have h4:=h.qs;unfold BkS.due;omega
theorem zTz{l:List Int}{i:Nat}{x y:Int}(h:y∈l.set i x):y∈l\/y=x:=by
 rcases jO h with h|h
 ·exact .inl h
 ·exact .inr h
theorem rndAt_ok{s:BkS}{nb:Nat}{K:Int}(h:s.ok nb K){i:Nat}(hi:i<nb):(zEq s i).ok nb K:=by
 obtain⟨d0,d1,d2,d3⟩:=h.due_ hi;have hr:=h.res;have hgi:=h.g _ (qB (bX h.lg hi));refine⟨h.lw,by simp[zEq,h.lg],by simp[zEq,h.lq],h.rd,⟨by simp only[zEq];omega,by simp only[zEq];omega,hr.2.2⟩,h.w,λx hx=> ?_,λj x y hx hy=> ?_,λx hx=> ?_,?_⟩
 ·rcases zTz hx with hx|rfl
  ·exact h.g x hx
  ·omega
 ·simp only[zEq]at hx hy;by_cases hij:i=j
  ·subst hij;rw[jM (by rw[h.lg];exact hi)]at hx;injection hx with hx;have:=getD_of hy;omega
  ·rw[jX hij]at hx;exact h.gw j x y hx hy
 ·rcases zTz hx with hx|rfl
  ·exact h.q x hx
  ·omega
 ·simp only[zEq];rw[zYv _ _ _ _ (bX h.lq hi)];have:=h.qs;omega
theorem zHs{s:BkS}{nb:Nat}{K:Int}(h:s.ok nb K):∀k,k<=nb->(rnd s k).ok nb K
 |0,_=>h
 |k+1,hk=>rndAt_ok (zHs h k (by omega)) (by omega)
theorem zMa{s:BkS}{nb:Nat}{K most:Int}(h:s.ok nb K)(hm:0<=most/\most<=1048576):(zEt most s).ok nb K:=by obtain⟨h1,h2,h3⟩:=zFf s.reserve (List.replicate s.wants.length most) h.res.1 (λw hw=>by have:=jT hw;omega);refine⟨h.lw,h.lg,by simp only[zEt];rw[h1,jB,h.lw],h.rd,h.res,h.w,h.g,h.gw,λx hx=>(h2 x hx).1,h3⟩
theorem zQj{s:BkS}{nb:Nat}{K most ticks:Int}(h:s.ok nb K)(hm:0<=most/\most<=1048576):(fR most ticks s).1.ok nb (K+1):=by
 have key:∀t:BkS,t.ok nb K->t.round=s.round->t.wants=s.wants->(rnd {t with round:=s.round+1} s.wants.length).ok nb (K+1):=λt ht hr hw=>by have h0:({t with round:=s.round+1}:BkS).ok nb (K+1):=⟨ht.lw,ht.lg,ht.lq,(show 0<=s.round+1/\s.round+1<=K+1 by have:=h.rd;omega),ht.res,ht.w,ht.g,ht.gw,ht.q,ht.qs⟩;exact zHs h0 _ (by rw[h.lw];exact qA _)
 unfold fR;dsimp only
 split
 ·exact key _ (zMa h hm) rfl rfl
 ·exact key _ h rfl rfl
theorem want_ok{s:BkS}{nb:Nat}{K n:Int}{who:Nat}(h:s.ok nb K)(hw:who<nb)(hn:0<=n/\n<=1048576):(zCs s who n).ok nb (K+1):=by
 have hx:=h.w _ (qB (bX h.lw hw));refine⟨by simp[zCs,h.lw],h.lg,h.lq,by have:=h.rd;simp only[zCs];omega,h.res,λx hx=> ?_,h.g,λj x y hx hy=> ?_,h.q,h.qs⟩
 ·rcases zTz hx with hx|rfl
  ·exact h.w x hx
  ·omega
 ·simp only[zCs]at hx hy;by_cases hij:who=j
  ·subst hij;rw[jM (by rw[h.lw];exact hw)]at hy;injection hy with hy;have:=h.gw who x _ hx (bX h.lw hw);omega
  ·rw[jX hij]at hy;exact h.gw j x y hx hy
theorem zSu{s:BkS}{nb:Nat}{K L:Int}(h:s.ok nb K)(hL:K<=L):s.ok nb L:={h with rd:=⟨h.rd.1,Int.le_trans h.rd.2 hL⟩}
def BkS.new(nb:Nat):BkS:=⟨0,0,0,List.replicate nb 0,List.replicate nb 0,List.replicate nb 0⟩
theorem zZy(n:Nat):zDq (List.replicate n 0)=0:=by
 induction n with
 |zero=>rfl
 |succ n ih=>rw[List.replicate_succ,zDq,ih];rfl
theorem yCq(nb:Nat):(BkS.new nb).ok nb 0:=by
 have hz:∀x∈List.replicate nb (0:Int),x=0:=λx hx=>jT hx
 refine⟨by simp[BkS.new],by simp[BkS.new],by simp[BkS.new],by simp[BkS.new],by simp[BkS.new],λx hx=> ?_,λx hx=> ?_,λi x y hx hy=> ?_,λx hx=> ?_,?_⟩
 ·have:=hz x hx;omega
 ·have:=hz x hx;omega
 ·have:=hz x (qB hx);have:=hz y (qB hy);omega
 ·have:=hz x hx;omega
 ·simp only[BkS.new];rw[zZy];omega
structure BrS where
 rounds:Int
 reserve:Int
 ever:Int
 wants:List Int
 given:List Int
 since:List Int
 quotas:List Int
def BrS.due(s:BrS)(i:Nat):Int:=
 if s.given.getD i 0<s.wants.getD i 0/\s.since.getD i 0<s.quotas.getD i 0 then min (s.wants.getD i 0-s.given.getD i 0) (s.quotas.getD i 0-s.since.getD i 0)else 0
def fC(s:BrS)(i:Nat):BrS:={s with given:=s.given.set i (s.given.getD i 0+s.due i),since:=s.since.set i (s.since.getD i 0+s.due i),reserve:=s.reserve-s.due i}
def gv(s:BrS):Nat->BrS
 |0=>s
 |k+1=>fC (gv s k) k
def zDa(most:Int)(nb:Nat)(s:BrS):BrS:={s with quotas:=gives s.reserve (List.replicate nb most),since:=List.replicate nb 0}
def zEy(most ticks:Int)(nb:Nat)(s:BrS):BrS×(List Int×Int):=
 let s1:=if s.rounds=0 then zDa most nb s else s
 let s2:=gv {s1 with rounds:=(s.rounds+1)%ticks} nb
 (s2,s2.given,if s.rounds=0 then s.reserve else-1)
structure zBk(ticks:Int)(nb:Nat)(s:BkS)(r:BrS):Prop where
 rd:r.rounds=s.round%ticks
 res:r.reserve=s.reserve
 all:r.ever=s.all
 w:r.wants=s.wants
 g:r.given=s.granted
 ls:r.since.length=nb
 lq:r.quotas.length=nb
 q:∀i,i<nb->s.quota.getD i 0=r.quotas.getD i 0-r.since.getD i 0
 bd:∀i,i<nb->0<=r.since.getD i 0/\r.since.getD i 0<=r.quotas.getD i 0/\r.quotas.getD i 0<=1048576
theorem due_same{ticks:Int}{nb:Nat}{s:BkS}{r:BrS}{K:Int}(h:zBk ticks nb s r)(ho:s.ok nb K){i:Nat}(hi:i<nb):r.due i=s.due i:=by
 have h1:=h.q i hi;have h2:=h.bd i hi;have h3:=ho.gw i _ _ (bX ho.lg hi) (bX ho.lw hi);unfold BrS.due BkS.due;rw[h.w,h.g]
 split
 ·omega
 ·omega
theorem zFo{l:List Int}{i j:Nat}{x:Int}(hi:i<l.length):(l.set i x).getD j 0=if i=j then x else l.getD j 0:=by
 rw[qG,qG,List.getElem?_set]
 split
 ·rename_i h;subst h;first|rfl|simp[hi]
 ·rfl
theorem at_same{ticks:Int}{nb:Nat}{s:BkS}{r:BrS}{K:Int}(h:zBk ticks nb s r)(ho:s.ok nb K){i:Nat}(hi:i<nb):zBk ticks nb (zEq s i) (fC r i):=by
 have hd:=due_same h ho hi;obtain⟨d0,d1,d2,d3⟩:=ho.due_ hi;refine⟨h.rd,by simp only[fC,zEq];rw[hd,h.res],h.all,h.w,by simp only[fC,zEq];rw[hd,h.g],by simp[fC,h.ls],h.lq,λj hj=> ?_,λj hj=> ?_⟩
 ·simp only[fC,zEq];rw[zFo (by rw[ho.lq];exact hi),zFo (by rw[h.ls];exact hi),hd];have:=h.q j hj
  split
  ·rename_i e;subst e;omega
  ·exact this
 ·simp only[fC];rw[zFo (by rw[h.ls];exact hi),hd];have h1:=h.q j hj;have h2:=h.bd j hj
  split
  ·rename_i e;subst e;omega
  ·exact h2
theorem zTw{ticks:Int}{nb:Nat}{s:BkS}{r:BrS}{K:Int}(h:zBk ticks nb s r)(ho:s.ok nb K):∀k,k<=nb->zBk ticks nb (rnd s k) (gv r k)
 |0,_=>h
 |k+1,hk=>at_same (zTw h ho k (by omega)) (zHs ho k (by omega)) (by omega)
theorem yDd{most ticks:Int}{nb:Nat}{s:BkS}{r:BrS}{K:Int}(h:zBk ticks nb s r)(ho:s.ok nb K)(hm:0<=most/\most<=1048576)(ht:1<=ticks):zBk ticks nb (fR most ticks s).1 (zEy most ticks nb r).1/\(fR most ticks s).2=(zEy most ticks nb r).2:=by
 have hrd:(s.round+1)%ticks=(r.rounds+1)%ticks:=by rw[h.rd];simp[Int.add_emod]
 have hK:(s.round+1)<=K+1:=by have:=ho.rd;omega
 have key:∀(t:BkS) (u:BrS),zBk ticks nb t u->t.ok nb K->zBk ticks nb (rnd {t with round:=s.round+1} nb) (gv {u with rounds:=(r.rounds+1)%ticks} nb):=λt u hs ht=>by have h0:({t with round:=s.round+1}:BkS).ok nb (K+1):=⟨ht.lw,ht.lg,ht.lq,(show 0<=s.round+1/\s.round+1<=K+1 by have:=ho.rd;omega),ht.res,ht.w,ht.g,ht.gw,ht.q,ht.qs⟩;have hs0:zBk ticks nb ({t with round:=s.round+1}:BkS) ({u with rounds:=(r.rounds+1)%ticks}:BrS):=⟨hrd.symm,hs.res,hs.all,hs.w,hs.g,hs.ls,hs.lq,hs.q,hs.bd⟩;exact zTw hs0 h0 nb (qA _)
 unfold fR zEy;dsimp only;rw[<-h.rd,ho.lw,h.res];by_cases h0:r.rounds=0
 ·simp only[if_pos h0];have h1:=key (zEt most s) (zDa most nb r) (by
   obtain⟨g1,g2,g3⟩:=zFf s.reserve (List.replicate s.wants.length most) ho.res.1 (λw hw=>by have:=jT hw;omega);rw[ho.lw]at g1 g2;rw[jB]at g1;have hz:∀i,(List.replicate nb (0:Int)).getD i 0=0:=λi=>by rw[qG,jV];split<;>rfl
   refine⟨h.rd,h.res,h.all,h.w,h.g,by simp[zDa],by simp only[zDa];rw[h.res];exact g1,λi hi=> ?_,λi hi=> ?_⟩
   ·simp only[zEt,zDa];rw[hz,h.res,ho.lw];omega
   ·simp only[zDa];rw[hz,h.res];have:=g2 _ (qB (bX g1 hi));omega) (zMa ho hm)
  refine⟨h1,?_⟩;rw[h1.g]
 ·simp only[if_neg h0];have h1:=key s r h ho;refine⟨h1,?_⟩;rw[h1.g]
def BrS.new(nb:Nat):BrS:=⟨0,0,0,List.replicate nb 0,List.replicate nb 0,List.replicate nb 0,List.replicate nb 0⟩
theorem yHl(ticks:Int)(nb:Nat):zBk ticks nb (BkS.new nb) (BrS.new nb):=by
 have hz:∀i,(List.replicate nb (0:Int)).getD i 0=0:=λi=>by rw[qG,jV];split<;>rfl
 refine⟨by simp[BkS.new,BrS.new],rfl,rfl,rfl,rfl,by simp[BrS.new],by simp[BrS.new],λi _=> ?_,λi _=> ?_⟩
 ·simp only[BkS.new,BrS.new];rw[hz];omega
 ·simp only[BrS.new];rw[hz];omega
structure Ext(w:World) where
 W:World
 h:uR w W
theorem Ext.cell{w:World}(n:Ext w){p:Addr}{v:Value}(h:w.cell? p=some v):n.W.cell? p=some v:=by rw[n.h.cell (Blk_lt_of_cell h)];exact h
where
 Blk_lt_of_cell {w:World} {p:Addr} {v:Value} (h:w.cell? p=some v):p.block<w.heap.size:=by
  refine Nat.not_le.1 λhc=> ?_
  have:w.heap[p.block]? =none:=Array.getElem?_eq_none hc;unfold World.cell? at h;simp[this]at h
instance (w:World):Nonempty (Ext w):=⟨⟨w,qC _ _⟩⟩
def Ext.on{w:World}(n:Ext w)(m:Ext n.W):Ext w:=⟨m.W,n.h.trans (m.h.mono n.h.size)⟩
theorem fT{P:Program}{f:FuncId}{args:Array Value}{w:World}{n:Ext w}{v:Value}(h:Calls P f args n.W λe w'=>e= .returned v/\uR n.W w'):Calls P f args n.W λe w''=>e= .returned v/\∃m:Ext w,w''=m.W:=
 h.mono λ_ w' ⟨he,hb⟩=>⟨he,n.on ⟨w',hb⟩,rfl⟩
theorem gQ{w:World}{g:Nat}{t:TypeId}{cs:List Value}{B:Nat}(h:Blk w g t cs.toArray)(hB:g<B):Reads w B 1 (some ⟨g,0,none⟩) cs.length cs:=by
 refine⟨by simp,λ_=>⟨⟨g,0,none⟩,rfl,hB,λj u hj=> ?_⟩⟩;have:=h.cell j;have e:(⟨g,0,none⟩:Addr).add j=⟨g,j,none⟩:=by unfold Addr.add;split<;>simp_all
 rw[e];simpa[hj]using this
theorem dR{P:Program}{id:Nat}{Q:Exit->Act->World->Prop}{a:Act}{w:World}{l:List Oper}(hm:P.follows .mixedOrders=true)(hB:Region.lexB .any l.toArray=true)(h:wpQuiet P l.toArray (λw'=>∃n:Ext w,w'=n.W) (λa'=>∀w',(∃n:Ext w,w'=n.W)->Q .normal a' w') l a):(Code.region id l.toArray true).wp P Q a w:=
 wp_region_quiet (C:=λw'=>∃n:Ext w,w'=n.W) hm hB ⟨⟨w.drew,(qC _ w).drew⟩,rfl⟩ (by simpa using h)
theorem zWy:(prog.info? 5).map (λi=>(i.zero,i.size,i.bytes))=some (some (.int .u8 0),1,1):=by kernel_rfl
theorem yAq:∃i,prog.info? 5=some i/\i.zero=some (.int .u8 0)/\i.size=1/\i.bytes=1:=by
 have h:=zWy;cases hi:prog.info? 5 with
 |none=>rw[hi]at h;simp at h
 |some i=>rw[hi]at h;simp at h;exact⟨i,rfl,h.1,h.2.1,h.2.2⟩
theorem zSk(A:Option Addr)(n c:Nat)(xs:List Value)(B:Nat)(w:World)(hone:∀u∈xs,u.oneCell'=true)(hm:n*1<=140737488355328)(hr:Reads w B 1 A n xs)(hB:B<=w.heap.size):Calls prog 55 #[.slice A n c] w λe w'=>∃v,e= .returned v/\w'.ownsRow w.heap.size 5 1 v n xs/\uR w w':=by
 obtain⟨i0,hi,hz0,hz1,hz2⟩:=yAq;have q22:∀(w:World) (a:Option Addr) (n c n' c':Nat),(binOp .eql 55 (.slice a n c) (.slice none n' c')).run prog w= .ok (.bool a.isNone) w:=λw a n c n' c'=>Lib.run_eql_slice_nil w _ _ a n c n' c' underlying55
 have HR:=uT (hr.more hB);clear hr;cases A with
 |none=>
  obtain rfl:n=0:=by
   rcases Nat.eq_zero_or_pos n with h|h
   ·exact h
   ·obtain⟨a,ha,_⟩:=HR.s.2 h;cases ha
  obtain rfl:xs=[]:=uC (by have:=HR.s.1;omega);go_enter func55,ntmps55;go_wp2_with fail;go_ret;exact⟨_,rfl,qH _ _ _ _,qC _ _⟩
 |some a=>
  have hlit:=World.ownsRow_lit (base:=w.heap.size) (size:=1) (e:=5) w #[] 0 (qA _) (by unfold maxLen;omega) rfl;obtain⟨HLIT,HR1⟩:=uI hlit (HR.s.alloc (qA _) (.cells #[] 5));have h1:0+n<=maxLen:=by unfold maxLen;omega
  have h2:(0+n)*1<=140737488355328:=by omega
  have HONE:=uT hone;clear hlit hB hm hone;go_enter func55,ntmps55;go_wp2_with(first
   |(at_builtin;(refine fL _ rfl (.tmp 5) (.tmp 6) _ rfl w.heap.size 5 i0 _ 1 1 underlying55 hi hz0 hz1 hz2 rfl (by omega) _ 0 _ rfl HLIT.s w.heap.size (some a) n c xs rfl HR1.s HONE.s h1 h2 (by simp) ?_);intro v w1 hown hg hv))
  go_ret;exact⟨v,rfl,by simpa using hown,((qC _ w).alloc (qA _) _).grown hg (by simp) λk hk=>(HLIT.s.lt k hk).1⟩
section
variable {P:Program}{ops:Array Oper}{md:Region.Mode}{C:World->Prop}
def zNd(P:Program)(md:Region.Mode)(ops:Array Oper)(C:World->Prop)(n:Nat)(L:Array Bool->Act->Prop):Nat->Array Bool->Act->Prop
 |0,listed,a=>L listed a
 |f+1,listed,a=>Region.ready md ops listed≠[]/\∀i∈Region.ready md ops listed,i<n/\qOp P ops C i (zNd P md ops C n L f (listed.setIfInBounds i true)) a
theorem zLf{n g:Nat}{L:Array Bool->Act->Prop}{Q':Exit->Act->World->Prop}(hL:∀listed a w,C w->L listed a->wpAny P md ops Q' g listed a w):∀(f:Nat) (listed:Array Bool) (a:Act) (w:World),C w->zNd P md ops C n L f listed a->wpAny P md ops Q' (f+g) listed a w
 |0,listed,a,w,hw,h=>by rw[Nat.zero_add];exact hL _ _ _ hw h
 |f+1,listed,a,w,hw,h=>by rw[show f+1+g=(f+g)+1 by omega];exact⟨λh0=>absurd h0 h.1,λi hi=>wpOp_of_qOp hw (λa' w' hw' h'=>zLf hL f _ a' w' hw' h') (h.2 i hi).2⟩
theorem zYs{n i:Nat}{oi:Oper}{v:Value}{L:Array Bool->Act->Prop}(hi:ops[i]? =some oi)(hsel:∀(j:Nat) (o:Oper) cs b,ops[j]? =some o->o.op≠ .select cs b)(hs:Region.sinkB md ops n=true)(hc:Region.chainB md ops n=true)(hn:n<ops.size)(hin:i<n)(hdone:∀listed a,L listed a->∀j∈Region.ready md ops listed,n<=j):∀(f:Nat) (listed:Array Bool) (a:Act),HeadInv md ops n listed-> (∀j oj,ops[j]? =some oj->j≠i->listed.getD j true=false->(∀e∈oj.after,Region.binds md e=true->e.on≠i)->oi.apart ops oj=true)-> i∈Region.ready md ops listed->YieldsIn P ops C oi v a-> zNd P md ops C n L f (listed.setIfInBounds i true) (a.put oi.dst v)->zNd P md ops C n L (f+1) listed a:=by
 intro f
 induction f with
 |zero=>
  intro listed a inv _ hr hy H;have hun:=(mem_ready.1 hr).1;refine⟨λh=>(by rw[h]at hr;cases hr),λj hj=> ?_⟩;have hjn:j<n:=by
   rcases Nat.lt_or_ge j n with h|h
   ·exact h
   ·exact absurd hj (tail_waits hs hc hn inv _ i rfl hin hun j h)
  refine⟨hjn,?_⟩;by_cases hji:j=i
  ·subst hji;exact hy.qOp hi H
  ·have:=hdone _ _ H j (ready_mono hj hji);omega
 |succ f ih=>
  intro listed a inv hfree hr hy H;have hun:=(mem_ready.1 hr).1;refine⟨λh=>(by rw[h]at hr;cases hr),λj hj=> ?_⟩;have hjn:j<n:=by
   rcases Nat.lt_or_ge j n with h|h
   ·exact h
   ·exact absurd hj (tail_waits hs hc hn inv _ i rfl hin hun j h)
  refine⟨hjn,?_⟩;by_cases hji:j=i
  ·subst hji;exact hy.qOp hi H
  ·have h1:=(H.2 j (ready_mono hj hji)).2;obtain⟨hjun,oj,hoj,hall⟩:=mem_ready.1 hj;have hnot:∀e∈oj.after,Region.binds md e=true->e.on≠i:=λe he hb heq=>by have h1:=hall e he hb;rw[heq,getD_both hun]at h1;cases h1
   have h2:=qOp_put hoj (hfree j oj hoj hji hjun hnot) (λcs b=>hsel i oi cs b hi) (λcs b=>hsel j oj cs b hoj) hy h1;have hfree':∀k ok,ops[k]? =some ok->k≠i->(listed.setIfInBounds j true).getD k true=false->
       (∀e∈ok.after,Region.binds md e=true->e.on≠i)->oi.apart ops ok=true:=λk ok hk hki hun hno=>by
    refine hfree k ok hk hki ?_ hno;by_cases hjk:j=k
    ·subst hjk;exact hjun
    ·rw[getD_set_ne true hjk]at hun;exact hun
   refine qOp_mono (λa' h3=>ih (listed.setIfInBounds j true) a' (inv.set hj hjn) hfree' (ready_mono hr (Ne.symm hji)) h3.1 ?_) h2;rw[Array.setIfInBounds_comm _ _ hji];exact h3.2
theorem zQz{n g:Nat}{Lq:Act->Prop}(hsel:Region.noSelect ops=true)(hs:Region.sinkB md ops n=true)(hc:Region.chainB md ops n=true)(hn:n<ops.size):∀(l:List Oper) (k:Nat) (listed:Array Bool) (a:Act),(∀j,j<l.length->l[j]? =ops[k+j]?)->k+l.length=n->HeadInv md ops n listed-> Region.lexHead md ops g l.length k listed=true->wpQuiet P ops C Lq l a-> zNd P md ops C n (λlisted' a'=>Region.seqB md ops g n listed'=true/\Lq a') l.length listed a
 |[],k,listed,a,_,hk,_,hB,h=>by
  have:k=n:=by simpa using hk
  subst this;exact⟨by simpa[Region.lexHead]using hB,h⟩
 |o::l,k,listed,a,hl,hk,inv,hB,h=>by
  have h0:ops[k]? =some o:=by simpa using(hl 0 (by simp)).symm
  simp only[jG,Region.lexHead,qT]at hB;obtain⟨⟨hr,hf⟩,hB'⟩:=hB;have hkn:k<n:=by simp only[jG]at hk;omega
  have hr':k∈Region.ready md ops listed:=by simpa using hr
  have hst:qOp P ops C k (wpQuiet P ops C Lq l) a:=by unfold qOp;simp only[h0];exact h
  obtain⟨v,hy,hK⟩:=yieldsIn_of_qOp h0 hst;exact zYs h0 (Region.noSelect_spec hsel) hs hc hn hkn (λlisted' a' hL=>seqB_ready hL.1) l.length listed a inv (Region.free_spec h0 hf) hr' hy
   (zQz hsel hs hc hn l (k+1) _ _ (λj hj=>by have:=hl (j+1) (by simp;omega);simpa[Nat.add_assoc,Nat.add_comm 1 j]using this) (by simp only[jG]at hk;omega) (inv.set hr' hkn) hB' hK)
theorem zGi{id:Nat}{Q:Exit->Act->World->Prop}{a:Act}{w:World}{l:List Oper}(n:Nat)(hm:P.follows .mixedOrders=true)(hB:Region.lexTailB .any l.toArray n=true)(hC:C {w with drawn:=w.drawn+1})(h:wpQuiet P l.toArray C (λa'=>∀w',C w'->wpList P l.toArray Q (l.drop n) a' w') (l.take n) a):(Code.region id l.toArray true).wp P Q a w:=by
 simp only[Region.lexTailB,qT,decide_eq_true_eq]at hB;obtain⟨⟨⟨⟨hsel,hn⟩,hs⟩,hc⟩,hlex⟩:=hB;have hn':n<l.length:=by simpa using hn
 have htl:(l.take n).length=n:=by simp;omega
 have hdl:(l.drop n).length=l.toArray.size-n:=by simp
 have inv0:HeadInv .any l.toArray n (Array.replicate l.toArray.size false):=
  ⟨by simp,λj oj _ hl=>(by rw[getD_replicate_false]at hl;cases hl),λt _ ht=>getD_in (by simpa using ht) (getD_replicate_false _ _)⟩
 have H:=zQz (md:= .any) (C:=C) (g:=l.toArray.size-n) hsel hs hc hn (l.take n) 0 _ a (λj hj=>by
  have hj':j<n:=by rw[htl]at hj;exact hj
  simp[hj']) (by simpa using htl) inv0 (by rw[htl];exact hlex) h
 refine wp_region_any hm ?_;have:=zLf (Q':=Q) (g:=l.toArray.size-n) (λlisted a' w' hw' hL=>by
  have:=wpAny_of_seq (md:= .any) (Q':=Q) (l.drop n) n listed a' w' (λj=>by simp[List.getElem?_drop]) (by rw[hdl];exact hL.1) (hL.2 w' hw')
  rwa[hdl]at this) _ _ _ _ hC H
 rw[htl,show n+(l.toArray.size-n)=l.toArray.size by omega]at this;exact this
theorem gF{id:Nat}{Q:Exit->Act->World->Prop}{a:Act}{w:World}{l:List Oper}(n:Nat)(hm:P.follows .mixedOrders=true)(hB:Region.lexTailB .any l.toArray n=true)(h:wpQuiet P l.toArray (λw'=>∃n:Ext w,w'=n.W) (λa'=>∀w',(∃n:Ext w,w'=n.W)->wpList P l.toArray Q (l.drop n) a' w') (l.take n) a):(Code.region id l.toArray true).wp P Q a w:=
 zGi n hm hB ⟨⟨w.drew,(qC _ w).drew⟩,rfl⟩ h
theorem bV{id:Nat}{Q:Exit->Act->World->Prop}{a:Act}{w:World}{l:List Oper}(n:Nat)(hm:P.follows .mixedOrders=true)(hB:Region.lexTailB .any l.toArray n=true)(h:wpQuiet P l.toArray (λw'=>∃n,w'=w.drewN n) (λa'=>∀w',(∃n,w'=w.drewN n)->wpList P l.toArray Q (l.drop n) a' w') (l.take n) a):(Code.region id l.toArray true).wp P Q a w:=
 zGi n hm hB ⟨1,rfl⟩ h
end
section
variable {P:Program}{ops:Array Oper}{md:Region.Mode}{C:World->Prop}
def zEk(md:Region.Mode)(ops:Array Oper)(t:Nat):List Nat->Bool
 |[]=>true
 |i::hd=>(hd.any (λj=>Region.waitsFor md ops j i)||Region.waitsFor md ops t i)&&zEk md ops t hd
def zFv(md:Region.Mode)(ops:Array Oper):Nat->List Nat->Bool
 |_,[]=>true
 |t,u::tl=>Region.waitsFor md ops u t&&zFv md ops u tl
structure HeadBy(md:Region.Mode)(ops:Array Oper)(tl:List Nat)(listed:Array Bool):Prop where
 size:listed.size=ops.size
 closed:∀j oj,ops[j]? =some oj->listed.getD j false=true->∀e∈oj.after,Region.binds md e=true->listed.getD e.on false=true
 tail:∀t∈tl,listed.getD t true=false
theorem HeadBy.set{tl:List Nat}{i:Nat}{listed:Array Bool}(inv:HeadBy md ops tl listed)(hi:i∈Region.ready md ops listed)(hin:i∉tl):HeadBy md ops tl (listed.setIfInBounds i true):=by
 obtain⟨_,oi,hoi,hall⟩:=mem_ready.1 hi;refine⟨by simp[inv.size],λj oj hj hl e he hb=> ?_,λt ht=>by
  have hne:i≠t:=λe=>hin (by rw[e];exact ht)
  rw[getD_set_ne true hne];exact inv.tail t ht⟩
 by_cases hij:i=j
 ·subst hij;have:oj=oi:=Option.some.inj (hj.symm.trans hoi);subst this;exact getD_set_true (hall e he hb)
 ·rw[getD_set_ne false hij]at hl;exact getD_set_true (inv.closed j oj hj hl e he hb)
theorem zDv{t:Nat}{tl:List Nat}{listed:Array Bool}(inv:HeadBy md ops (t::tl) listed):∀(hd:List Nat),zEk md ops t hd=true->∀i∈hd,listed.getD i true=false->t∉Region.ready md ops listed:=by
 intro hd
 induction hd with
 |nil=>intro _ i hi;cases hi
 |cons k hd ih=>
  intro hs i hi hun hr;simp only[zEk,qT,Bool.or_eq_true]at hs;rcases jD.1 hi with rfl|hi
  ·rcases hs.1 with h1|h1
   ·obtain⟨j,hj,hw⟩:=List.any_eq_true.1 h1;obtain⟨oj,hoj,e,he,hb,hon⟩:=Region.waitsFor_spec hw;cases hl:listed.getD j false with
    |true=>have h2:=inv.closed j oj hoj hl e he hb;rw[hon,getD_both hun]at h2;cases h2
    |false=>
     have hjs:j<listed.size:=by rw[inv.size];exact(Array.getElem?_eq_some_iff.1 hoj).1
     exact ih hs.2 j hj (getD_in hjs hl) hr
   ·obtain⟨_,ot,hot,hall⟩:=mem_ready.1 hr;obtain⟨o',ho',e,he,hb,hon⟩:=Region.waitsFor_spec h1;have:o'=ot:=Option.some.inj (ho'.symm.trans hot);subst this;have h2:=hall e he hb;rw[hon,getD_both hun]at h2;cases h2
  ·exact ih hs.2 i hi hun hr
theorem zFe{listed:Array Bool}:∀(tl:List Nat) (t:Nat),zFv md ops t tl=true->(∀u∈t::tl,listed.getD u true=false)->∀u∈tl,u∉Region.ready md ops listed:=by
 intro tl
 induction tl with
 |nil=>intro t _ _ u hu;cases hu
 |cons v tl ih=>
  intro t hc hun u hu hr;simp only[zFv,qT]at hc;rcases jD.1 hu with rfl|hu
  ·obtain⟨_,ot,hot,hall⟩:=mem_ready.1 hr;obtain⟨o',ho',e,he,hb,hon⟩:=Region.waitsFor_spec hc.1;have:o'=ot:=Option.some.inj (ho'.symm.trans hot);subst this;have h2:=hall e he hb;rw[hon,getD_both (hun t (by simp))]at h2;cases h2
  ·exact ih v hc.2 (λx hx=>hun x (by simp[jD.1 hx])) u hu hr
def zMp(P:Program)(md:Region.Mode)(ops:Array Oper)(C:World->Prop)(tl:List Nat)(L:Array Bool->Act->Prop):Nat->Array Bool->Act->Prop
 |0,listed,a=>L listed a
 |f+1,listed,a=>Region.ready md ops listed≠[]/\∀i∈Region.ready md ops listed,i∉tl/\qOp P ops C i (zMp P md ops C tl L f (listed.setIfInBounds i true)) a
theorem zYt{t:Nat}{hd tl:List Nat}{i:Nat}{oi:Oper}{v:Value}{L:Array Bool->Act->Prop}(hi:ops[i]? =some oi)(hsel:∀(j:Nat) (o:Oper) cs b,ops[j]? =some o->o.op≠ .select cs b)(hs:zEk md ops t hd=true)(hc:zFv md ops t tl=true)(hih:i∈hd)(hit:i∉t::tl)(hdone:∀listed a,L listed a->∀j∈Region.ready md ops listed,j∈t::tl):∀(f:Nat) (listed:Array Bool) (a:Act),HeadBy md ops (t::tl) listed-> (∀j oj,ops[j]? =some oj->j≠i->listed.getD j true=false->(∀e∈oj.after,Region.binds md e=true->e.on≠i)->oi.apart ops oj=true)-> i∈Region.ready md ops listed->YieldsIn P ops C oi v a-> zMp P md ops C (t::tl) L f (listed.setIfInBounds i true) (a.put oi.dst v)->zMp P md ops C (t::tl) L (f+1) listed a:=by
 intro f
 induction f with
 |zero=>
  intro listed a inv _ hr hy H;have hun:=(mem_ready.1 hr).1;refine⟨λh=>(by rw[h]at hr;cases hr),λj hj=> ?_⟩;have hjn:j∉t::tl:=λhjt=>by
   rcases jD.1 hjt with rfl|h
   ·exact zDv inv hd hs i hih hun hj
   ·exact zFe tl t hc inv.tail j h hj
  refine⟨hjn,?_⟩;by_cases hji:j=i
  ·subst hji;exact hy.qOp hi H
  ·exact absurd (hdone _ _ H j (ready_mono hj hji)) hjn
 |succ f ih=>
  intro listed a inv hfree hr hy H;have hun:=(mem_ready.1 hr).1;refine⟨λh=>(by rw[h]at hr;cases hr),λj hj=> ?_⟩;have hjn:j∉t::tl:=λhjt=>by
   rcases jD.1 hjt with rfl|h
   ·exact zDv inv hd hs i hih hun hj
   ·exact zFe tl t hc inv.tail j h hj
  refine⟨hjn,?_⟩;by_cases hji:j=i
  ·subst hji;exact hy.qOp hi H
  ·have h1:=(H.2 j (ready_mono hj hji)).2;obtain⟨hjun,oj,hoj,hall⟩:=mem_ready.1 hj;have hnot:∀e∈oj.after,Region.binds md e=true->e.on≠i:=λe he hb heq=>by have h1:=hall e he hb;rw[heq,getD_both hun]at h1;cases h1
   have h2:=qOp_put hoj (hfree j oj hoj hji hjun hnot) (λcs b=>hsel i oi cs b hi) (λcs b=>hsel j oj cs b hoj) hy h1;have hfree':∀k ok,ops[k]? =some ok->k≠i->(listed.setIfInBounds j true).getD k true=false->
       (∀e∈ok.after,Region.binds md e=true->e.on≠i)->oi.apart ops ok=true:=λk ok hk hki hun hno=>by
    refine hfree k ok hk hki ?_ hno;by_cases hjk:j=k
    ·subst hjk;exact hjun
    ·rw[getD_set_ne true hjk]at hun;exact hun
   refine qOp_mono (λa' h3=>ih (listed.setIfInBounds j true) a' (inv.set hj hjn) hfree' (ready_mono hr (Ne.symm hji)) h3.1 ?_) h2;rw[Array.setIfInBounds_comm _ _ hji];exact h3.2
def zFx(md:Region.Mode)(ops:Array Oper):List Nat->Array Bool->Bool
 |[],listed=>(Region.ready md ops listed).isEmpty
 |k::tl,listed=>decide (Region.ready md ops listed=[k])&&(ops[k]?).isSome&&zFx md ops tl (listed.setIfInBounds k true)
def bB(ops:List Oper)(is:List Nat):List Oper:=is.map λi=>ops.getD i ⟨none,.move (.const undef),0, "",#[],none⟩
def zQv(md:Region.Mode)(ops:Array Oper)(tl:List Nat):List Nat->Array Bool->Bool
 |[],listed=>zFx md ops tl listed
 |k::hd,listed=>(Region.ready md ops listed).contains k&&Region.free md ops listed k&&(ops[k]?).isSome&&zQv md ops tl hd (listed.setIfInBounds k true)
def zIo(o:Oper):Bool:=
 match o.op with
 | .move _| .assign _| .nilCheck _| .fieldAddr .. =>true
 |_=>false
theorem zMj{o:Oper}(h:zIo o=true){ρ:Operand->Value}{w w':World}{n:Next}(hr:(execOp ρ o).run P w= .ok n w'):∃u,n= .value u:=by
 unfold zIo at h;unfold execOp at hr
 split at h
 ·rename_i x ho;simp only[ho]at hr;simp at hr;exact⟨_,hr.1.symm⟩
 ·rename_i x ho;simp only[ho]at hr;simp at hr;exact⟨_,hr.1.symm⟩
 ·rename_i x ho;simp only[ho]at hr;have hnil:∀(w w':World) (n:Next),¬ (runtimePanic (α:=Next) RuntimeError.nilDeref).run P w= .ok n w':=λw w' n h=>by simp[runtimePanic,goPanic]at h
  split at hr
  ·exact absurd hr (hnil _ _ _)
  ·exact absurd hr (hnil _ _ _)
  ·exact absurd hr (hnil _ _ _)
  ·split at hr
   ·exact absurd hr (hnil _ _ _)
   ·simp only[Sem.run_bind]at hr;rename_i t wv _;cases h1:(program).run P w with
    |halt c w2=>rw[h1]at hr;simp at hr
    |ok u w2=>
     rw[h1]at hr;simp only[Result.andThen_ok]at hr;cases h2:(nilAhead (u.types.size+Made.depth) t wv _).run P w2 with
     |halt c w3=>rw[h2]at hr;simp at hr
     |ok u3 w3=>
      rw[h2]at hr;simp only[Result.andThen_ok]at hr
      split at hr
      ·simp only[Sem.run_bind]at hr;generalize Sem.run P (unsupported _) w3=r at hr;cases r with
       |halt c w4=>simp at hr
       |ok u4 w4=>simp at hr;exact⟨_,hr.1.symm⟩
      ·simp at hr;exact⟨_,hr.1.symm⟩
   ·simp at hr;exact⟨_,hr.1.symm⟩
  ·simp at hr;exact⟨_,hr.1.symm⟩
 ·rename_i x y z ho;simp only[ho,Sem.run_bind]at hr;cases hq:(Instr.fieldAt x (ρ y) z).run P w with
  |ok u w2=>rw[hq]at hr;simp at hr;exact⟨_,hr.1.symm⟩
  |halt c w2=>rw[hq]at hr;simp at hr
 ·cases h
def zBy(md:Region.Mode)(ops:Array Oper)(out:List Nat):List Nat->Array Bool->Bool
 |[],_=>true
 |k::z,listed=>(Region.ready md ops listed).contains k&&Region.free md ops listed k&&(match ops[k]? with|some o=>zIo o|none=>false)&& !out.contains k&&zBy md ops out z (listed.setIfInBounds k true)
def fN(listed:Array Bool):List Nat->Array Bool
 |[]=>listed
 |k::z=>fN (listed.setIfInBounds k true) z
theorem yAt{tl:List Nat}{listed:Array Bool}(h:zFx md ops tl listed=true):∀j∈Region.ready md ops listed,j∈tl:=by
 cases tl with
 |nil=>intro j hj;simp only[zFx,List.isEmpty_iff]at h;rw[h]at hj;cases hj
 |cons k tl=>
  intro j hj;simp only[zFx,qT,decide_eq_true_eq]at h;rw[h.1.1]at hj;have:j=k:=by simpa using hj
  rw[this];simp
theorem zRe{l:List Oper}{t:Nat}{tl:List Nat}{Lq:Act->Prop}(hsel:Region.noSelect l.toArray=true)(hc:zFv md l.toArray t tl=true):∀(hd:List Nat) (listed:Array Bool) (a:Act),zEk md l.toArray t hd=true->(∀i∈hd,i∉t::tl)->HeadBy md l.toArray (t::tl) listed-> zQv md l.toArray (t::tl) hd listed=true->wpQuiet P l.toArray C Lq (bB l hd) a-> zMp P md l.toArray C (t::tl) (λlisted' a'=>zFx md l.toArray (t::tl) listed'=true/\Lq a') hd.length listed a
 |[],listed,a,_,_,_,hB,h=>⟨by simpa[zQv]using hB,h⟩
 |k::hd,listed,a,hs,hdis,inv,hB,h=>by
  simp only[zQv,qT]at hB;obtain⟨⟨⟨hr,hf⟩,hsome⟩,hB'⟩:=hB;obtain⟨o,h0⟩:=Option.isSome_iff_exists.1 hsome;have hp:bB l (k::hd)=o::bB l hd:=by
   have:l[k]? =some o:=by simpa using h0
   simp[bB,qG,this]
  rw[hp]at h;have hr':k∈Region.ready md l.toArray listed:=by simpa using hr
  have hst:qOp P l.toArray C k (wpQuiet P l.toArray C Lq (bB l hd)) a:=by unfold qOp;simp only[h0];exact h
  obtain⟨v,hy,hK⟩:=yieldsIn_of_qOp h0 hst;have hs':zEk md l.toArray t hd=true:=by simp only[zEk,qT]at hs;exact hs.2
  exact zYt h0 (Region.noSelect_spec hsel) hs hc (by simp) (hdis k (by simp)) (λlisted' a' hL=>yAt hL.1) hd.length listed a inv (Region.free_spec h0 hf) hr' hy
   (zRe hsel hc hd _ _ hs' (λi hi=>hdis i (by simp[hi])) (inv.set hr' (hdis k (by simp))) hB' hK)
theorem HeadBy.setAll{tl:List Nat}:∀(z:List Nat) (listed:Array Bool),HeadBy md ops tl listed->zBy md ops tl z listed=true->HeadBy md ops tl (fN listed z)
 |[],_,inv,_=>inv
 |k::z,listed,inv,h=>by simp only[zBy,qT]at h;obtain⟨⟨⟨⟨hr,_⟩,_⟩,hk⟩,h'⟩:=h;exact HeadBy.setAll z _ (inv.set (by simpa using hr) (by simpa using hk)) h'
theorem zQn{o:Oper}{v:Value}{a:Act}(hp:zIo o=true)(hy:YieldsIn P ops (λ_=>True) o v a):Yields P ops o v a:=by
 rcases hy with⟨hw,hv⟩|h
 ·refine .inl ⟨hw,λw=> ?_⟩;have h1:=hv w trivial;unfold Oper.quietAt at h1;cases hr:(execOp a.eval o).run P w with
  |ok n w'=>obtain⟨u,rfl⟩:=zMj hp hr;rw[hr]at h1;simp only[Oper.quietUpon]at h1;rw[h1.1,h1.2]
  |halt c w'=>rw[hr]at h1;simp only[Oper.quietUpon]at h1
 ·exact .inr h
theorem zIl{l:List Oper}{Q:Exit->Act->World->Prop}{out:List Nat}{f:Nat}{w:World}{R:Act->Prop}(hsel:Region.noSelect l.toArray=true)(hQ:∀c a d v w,Q (.panic c) (a.put d v) w->Q (.panic c) a w):∀(z:List Nat) (listed:Array Bool) (a:Act),zBy md l.toArray out z listed=true->wpQuiet P l.toArray (λ_=>True) R (bB l z) a->(∀a',R a'->wpAny P md l.toArray Q f (fN listed z) a' w)->wpAny P md l.toArray Q (z.length+f) listed a w
 |[],listed,a,_,h,hR=>by rw[List.length_nil,Nat.zero_add];exact hR a h
 |k::z,listed,a,hB,h,hR=>by
  simp only[zBy,qT]at hB;obtain⟨⟨⟨⟨hr,hf⟩,hp⟩,_⟩,hB'⟩:=hB;cases h0:l.toArray[k]? with
  |none=>rw[h0]at hp;cases hp
  |some o=>
   rw[h0]at hp;have hpo:zIo o=true:=hp;have hpk:bB l (k::z)=o::bB l z:=by
    have:l[k]? =some o:=by simpa using h0
    simp[bB,qG,this]
   rw[hpk]at h;have hst:qOp P l.toArray (λ_=>True) k (wpQuiet P l.toArray (λ_=>True) R (bB l z)) a:=by unfold qOp;simp only[h0];exact h
   obtain⟨v,hy,hK⟩:=yieldsIn_of_qOp h0 hst;rw[jG,show z.length+1+f=(z.length+f)+1 by omega];exact wpAny_take h0 hsel hf hr (λc a w=>hQ c a _ _ w) (zQn hpo hy) (zIl hsel hQ z _ _ hB' hK hR)
end
section
variable {P:Program}{ops:Array Oper}{Q:Exit->Act->World->Prop}{md:Region.Mode}{C:World->Prop}
def wpS(P:Program)(md:Region.Mode)(ops:Array Oper)(Q:Exit->Act->World->Prop)(C:World->Prop)(cal:List Nat):Nat->Array Bool->Act->World->Prop
 |0,listed,a,w=>Region.ready md ops listed=[]/\Q .normal a w
 |f+1,listed,a,w=>
  (Region.ready md ops listed=[]->Q .normal a w)/\
  ∀i∈Region.ready md ops listed,wpOp P ops Q i (λa' w'=>(i∈cal->C w')/\wpS P md ops Q C cal f (listed.setIfInBounds i true) a' w') a w
theorem zCc{cal:List Nat}:∀(f:Nat) (listed:Array Bool) (a:Act) (w:World),wpS P md ops Q C cal f listed a w->wpAny P md ops Q f listed a w
 |0,_,_,_,h=>h
 |f+1,_,_,_,h=>⟨h.1,λi hi=>wpOp_mono (λa' w' h'=>zCc f _ a' w' h'.2) (h.2 i hi)⟩
theorem yGx{cal:List Nat}{i:Nat}{oi:Oper}{v:Value}(hi:ops[i]? =some oi)(hsel:∀(j:Nat) (o:Oper) cs b,ops[j]? =some o->o.op≠ .select cs b)(hQ:∀c a d v w,Q (.panic c) (a.put d v) w->Q (.panic c) a w)(I:Array Bool->Prop)(hI:∀listed j,I listed->j∈Region.ready md ops listed->j∈cal->I (listed.setIfInBounds j true))(hw:∀listed j,I listed->listed.getD i true=false->j∈Region.ready md ops listed->j∈cal):∀(f:Nat) (listed:Array Bool) (a:Act) (w:World),I listed-> (∀j oj,ops[j]? =some oj->j≠i->listed.getD j true=false->(∀e∈oj.after,Region.binds md e=true->e.on≠i)->oi.apart ops oj=true)-> i∈Region.ready md ops listed->YieldsIf P ops C oi v a->C w-> wpS P md ops Q C cal f (listed.setIfInBounds i true) (a.put oi.dst v) w->wpS P md ops Q C cal (f+1) listed a w:=by
 intro f
 induction f with
 |zero=>
  intro listed a w _ _ hr hy hS H;refine⟨λh=>(by rw[h]at hr;cases hr),λj hj=> ?_⟩;by_cases hji:j=i
  ·subst hji;exact hy.wpOp hi hS ⟨λ_=>hS,H⟩
  ·have h2:=ready_mono hj hji;rw[H.1]at h2;cases h2
 |succ f ih=>
  intro listed a w inv hfree hr hy hS H;have hun:=(mem_ready.1 hr).1;refine⟨λh=>(by rw[h]at hr;cases hr),λj hj=> ?_⟩;by_cases hji:j=i
  ·subst hji;exact hy.wpOp hi hS ⟨λ_=>hS,H⟩
  ·have h1:=H.2 j (ready_mono hj hji);have hjc:=hw listed j inv hun hj;obtain⟨hjun,oj,hoj,hall⟩:=mem_ready.1 hj;have hnot:∀e∈oj.after,Region.binds md e=true->e.on≠i:=λe he hb heq=>by have h1:=hall e he hb;rw[heq,getD_both hun]at h1;cases h1
   have h2:=wpOp_putIf hoj (hfree j oj hoj hji hjun hnot) (λcs b=>hsel i oi cs b hi) (λcs b=>hsel j oj cs b hoj) (λc a w=>hQ c a _ _ w) hy h1;refine wpOp_mono (λa' w' h3=>⟨λ_=>h3.2.1 hjc,ih (listed.setIfInBounds j true) a' w' (hI listed j inv hj hjc) ?_ (ready_mono hr (Ne.symm hji)) h3.1 (h3.2.1 hjc) ?_⟩) h2
   ·intro k ok hk hki hku hno;refine hfree k ok hk hki ?_ hno;by_cases hjk:j=k
    ·subst hjk;exact hjun
    ·rw[getD_set_ne true hjk]at hku;exact hku
   ·rw[Array.setIfInBounds_comm _ _ hji];exact h3.2.2
def fJ(P:Program)(ops:Array Oper)(Q:Exit->Act->World->Prop)(C:World->Prop)(K:Act->World->Prop):List Oper->Act->World->Prop
 |[],a,w=>K a w
 |o::al,a,w=>wpList P ops (λe a' w'=>match e with| .normal=>C w'/\fJ P ops Q C K al a' w'|e=>Q e a' w') [o] a w
theorem zGv{l:List Oper}{k:Nat}{o:Oper}{K:Act->World->Prop}{a:Act}{w:World}(h0:l.toArray[k]? =some o)(h:wpList P l.toArray (λe a' w'=>match e with| .normal=>K a' w'|e=>Q e a' w') [o] a w):wpOp P l.toArray Q k K a w:=by
 have h1:wpOp P l.toArray (λe a' w'=>match e with| .normal=>K a' w'|e=>Q e a' w') k K a w:=by unfold wpOp;simp only[h0];exact h
 unfold wpOp at h1⊢;simp only[h0]at h1⊢
 split
 ·rename_i hw;simp only[hw,if_true]at h1;rcases h1 with h1|h1
  ·refine .inl ?_;unfold Oper.wp at h1⊢;generalize(execOp a.eval o).run P w=r at*;cases r with
   |ok n w'=>cases n<;>simp only[Oper.upon]at h1⊢<;>first|exact h1|(refine Calls.mono h1 λe w'' he=> ?_;cases e<;>first|exact he|trivial)|skip
   |halt x w'=>cases x<;>simp only[Oper.upon]at h1⊢<;>first|exact h1|skip
  ·exact .inr h1
 ·rename_i hw;simp only[hw]at h1;exact h1
theorem zMv{cal tlA:List Nat}{g:Nat}{L:Array Bool->Act->Prop}(hL:∀listed a w,C w->L listed a->wpS P md ops Q C cal g listed a w):∀(f:Nat) (listed:Array Bool) (a:Act) (w:World),C w->zMp P md ops C tlA L f listed a->wpS P md ops Q C cal (f+g) listed a w
 |0,listed,a,w,hw,h=>by rw[Nat.zero_add];exact hL _ _ _ hw h
 |f+1,listed,a,w,hw,h=>by rw[show f+1+g=(f+g)+1 by omega];exact⟨λh0=>absurd h0 h.1,λi hi=>wpOp_of_qOp hw (λa' w' hw' h'=>⟨λ_=>hw',zMv hL f _ a' w' hw' h'⟩) (h.2 i hi).2⟩
theorem zHu{l:List Oper}{k:Nat}{o:Oper}(is:List Nat)(h:l.toArray[k]? =some o):bB l (k::is)=o::bB l is:=by
 have:l[k]? =some o:=by simpa using h
 simp[bB,qG,this]
theorem zUk{l:List Oper}{cal:List Nat}:∀(tl:List Nat) (listed:Array Bool) (a:Act) (w:World),(∀k∈tl,k∉cal)-> zFx md l.toArray tl listed=true->wpList P l.toArray Q (bB l tl) a w->wpS P md l.toArray Q C cal tl.length listed a w
 |[],_,_,_,_,hB,h=>⟨by simpa[zFx]using hB,h⟩
 |k::tl,listed,a,w,hd,hB,h=>by
  simp only[zFx,qT,decide_eq_true_eq]at hB;obtain⟨⟨hr,hsome⟩,hB'⟩:=hB;refine⟨λh1=>(by rw[hr]at h1;cases h1),λi hi=> ?_⟩;rw[hr]at hi;have hik:i=k:=by simpa using hi
  subst hik;obtain⟨o,ho⟩:=Option.isSome_iff_exists.1 hsome;rw[zHu tl ho]at h;have hw:wpOp P l.toArray Q i (wpList P l.toArray Q (bB l tl)) a w:=by unfold wpOp;simp only[ho];exact h
  exact wpOp_mono (λa' w' h'=>⟨λhc=>absurd hc (hd i (by simp)),zUk tl _ a' w' (λk hk=>hd k (by simp[hk])) hB' h'⟩) hw
theorem zMx{l:List Oper}{cal:List Nat}{tl:List Nat}:∀(al:List Nat) (listed:Array Bool) (a:Act) (w:World),(∀k∈tl,k∉cal)-> zFx md l.toArray (al++tl) listed=true->fJ P l.toArray Q C (λa2 w2=>wpList P l.toArray Q (bB l tl) a2 w2) (bB l al) a w->wpS P md l.toArray Q C cal (al++tl).length listed a w
 |[],_,_,_,hd,hB,h=>zUk tl _ _ _ hd hB h
 |k::al,listed,a,w,hd,hB,h=>by
  rw[List.cons_append]at hB⊢;simp only[zFx,qT,decide_eq_true_eq]at hB;obtain⟨⟨hr,hsome⟩,hB'⟩:=hB;refine⟨λh1=>(by rw[hr]at h1;cases h1),λi hi=> ?_⟩;rw[hr]at hi;have hik:i=k:=by simpa using hi
  subst hik;obtain⟨o,ho⟩:=Option.isSome_iff_exists.1 hsome;rw[zHu al ho]at h;exact wpOp_mono (λa' w' h'=>⟨λ_=>h'.1,zMx al _ a' w' hd hB' h'.2⟩) (zGv ho h)
def zKw(o:Oper):Bool:=
 zIo o||(match o.op with
 | .pick .. | .build .. | .load .. | .binOp .. | .unOp .. | .convert .. | .slice .. | .field .. | .indexAddr .. | .index .. | .extract .. =>true
 | .call {callee:= .builtin .len,.. }=>true
 |_=>false)
theorem zWl{s:Sem Value}{w w':World}{n:Next}(h:(do let x<-s;pure (Next.value x):Sem Next).run P w= .ok n w'):∃u,n= .value u:=by
 simp only[Sem.run_bind]at h;cases hq:s.run P w with
 |ok u w2=>rw[hq]at h;simp at h;exact⟨_,h.1.symm⟩
 |halt c w2=>rw[hq]at h;simp at h
theorem zWa{o:Oper}(h:zKw o=true){ρ:Operand->Value}{w w':World}{n:Next}(hr:(execOp ρ o).run P w= .ok n w'):∃u,n= .value u:=by
 unfold zKw at h;rcases Bool.or_eq_true _ _▸h with h|h
 ·exact zMj h hr
 ·unfold execOp at hr
  split at h
  ·rename_i c x y ho;simp only[ho,Sem.run_bind]at hr;cases hq:(asBool (ρ c)).run P w with
   |ok u w2=>rw[hq]at hr;simp at hr;exact⟨_,hr.1.symm⟩
   |halt c w2=>rw[hq]at hr;simp at hr
  all_goals first
   |(rename_i ho;simp only[ho]at hr;exact zWl hr)
   |(cases h;done)
theorem yAo{o:Oper}{v:Value}{a:Act}(hp:zKw o=true)(hy:YieldsIn P ops C o v a):YieldsIf P ops C o v a:=by
 rcases hy with⟨hw,hv⟩|h
 ·refine .inl ⟨hw,λw hc=> ?_⟩;have h1:=hv w hc;unfold Oper.quietAt at h1;cases hr:(execOp a.eval o).run P w with
  |ok n w'=>obtain⟨u,rfl⟩:=zWa hp hr;rw[hr]at h1;simp only[Oper.quietUpon]at h1;rw[h1.1,h1.2]
  |halt c w'=>rw[hr]at h1;simp only[Oper.quietUpon]at h1
 ·exact .inr h
def hbBy(md:Region.Mode)(ops:Array Oper):List Nat->Array Bool->Bool
 |[],_=>true
 |k::hb,listed=>(Region.ready md ops listed).contains k&&Region.free md ops listed k&&(match ops[k]? with|some o=>zKw o|none=>false)&&hbBy md ops hb (listed.setIfInBounds k true)
theorem zDk{l:List Oper}{cal:List Nat}{f:Nat}{w:World}{R:Act->Prop}(hsel:Region.noSelect l.toArray=true)(hQ:∀c a d v w,Q (.panic c) (a.put d v) w->Q (.panic c) a w)(I:Array Bool->Prop)(hI:∀listed j,I listed->j∈Region.ready md l.toArray listed->j∈cal->I (listed.setIfInBounds j true))(hw:∀i,i∈cal->∀listed j,I listed->listed.getD i true=false->j∈Region.ready md l.toArray listed->j∈cal)(hC:C w):∀(hb:List Nat) (listed:Array Bool) (a:Act),I listed->(∀i∈hb,i∈cal)->hbBy md l.toArray hb listed=true->wpQuiet P l.toArray C R (bB l hb) a-> (∀a',I (fN listed hb)->R a'->wpS P md l.toArray Q C cal f (fN listed hb) a' w)->wpS P md l.toArray Q C cal (hb.length+f) listed a w
 |[],listed,a,inv,_,_,h,hR=>by rw[List.length_nil,Nat.zero_add];exact hR a inv h
 |k::hb,listed,a,inv,hc,hB,h,hR=>by
  simp only[hbBy,qT]at hB;obtain⟨⟨⟨hr,hf⟩,hp⟩,hB'⟩:=hB;cases h0:l.toArray[k]? with
  |none=>rw[h0]at hp;cases hp
  |some o=>
   rw[h0]at hp;have hpo:zKw o=true:=hp;rw[zHu hb h0]at h;have hst:qOp P l.toArray C k (wpQuiet P l.toArray C R (bB l hb)) a:=by unfold qOp;simp only[h0];exact h
   obtain⟨v,hy,hK⟩:=yieldsIn_of_qOp h0 hst;rw[jG,show hb.length+1+f=(hb.length+f)+1 by omega];have hkc:=hc k (by simp);have hkr:k∈Region.ready md l.toArray listed:=by simpa using hr
   exact yGx h0 (Region.noSelect_spec hsel) hQ I hI (hw k hkc) (hb.length+f) listed a w inv (Region.free_spec h0 hf) hkr (yAo hpo hy) hC
    (zDk hsel hQ I hI hw hC hb _ _ (hI listed k inv hkr hkc) (λi hi=>hc i (by simp[hi])) hB' hK hR)
theorem zKh(z:List Nat):∀(listed:Array Bool) (k:Nat),k<listed.size->(k∈z\/listed.getD k false=true)->(fN listed z).getD k false=true:=by
 induction z with
 |nil=>intro listed k _ h;rcases h with h|h;cases h;exact h
 |cons i z ih=>
  intro listed k hk h;refine ih _ k (by simpa using hk) ?_;rcases h with h|h
  ·rcases jD.1 h with rfl|h
   ·right;simp[hk]
   ·exact .inl h
  ·exact .inr (getD_set_true h)
def zXv(al:List Nat)(u:Nat):Nat:=match al with|[]=>u|k::_=>k
def restOf(al:List Nat)(u:Nat)(tl:List Nat):List Nat:=match al with|[]=>tl|_::al'=>al'++u::tl
theorem zNw(al:List Nat)(u:Nat)(tl:List Nat):zXv al u::restOf al u tl=al++u::tl:=by cases al<;>rfl
def zOj(md:Region.Mode)(ops:Array Oper)(z hb ha al:List Nat)(u:Nat)(tl:List Nat):Bool:=
 Region.noSelect ops&&zEk md ops u (hb++ha++al)&&zFv md ops u tl&&zEk md ops (zXv al u) ha&&zFv md ops (zXv al u) (restOf al u tl)&&
  (hb++ha++al).all (λi=> !(u::tl).contains i)&&(hb++ha).all (λi=> !al.contains i)&&(al++u::tl).all (λi=>decide (i<ops.size))&&z.all (λi=>decide (i<ops.size))&&
  decide (z.length+(hb.length+(ha.length+(al++u::tl).length))=ops.size)&&(List.range ops.size).all (λj=>z.contains j||(hb++ha++al).contains j||(u::tl).contains j)&&
  zBy md ops (al++u::tl) z (Array.replicate ops.size false)&&hbBy md ops hb (fN (Array.replicate ops.size false) z)&&zQv md ops (al++u::tl) ha (fN (fN (Array.replicate ops.size false) z) hb)
theorem zKy{id:Nat}{a:Act}{w:World}{l:List Oper}(z hb ha al:List Nat)(u:Nat)(tl:List Nat)(hm:P.follows .mixedOrders=true)(hB:zOj .any l.toArray z hb ha al u tl=true)(hQ:∀c a d v w,Q (.panic c) (a.put d v) w->Q (.panic c) a w)(hC:C {w with drawn:=w.drawn+1})(h:wpQuiet P l.toArray (λ_=>True) (wpQuiet P l.toArray C (wpQuiet P l.toArray C (λa'=>∀w',C w'->fJ P l.toArray Q C (λa2 w2=>wpList P l.toArray Q (bB l (u::tl)) a2 w2) (bB l al) a' w') (bB l ha)) (bB l hb)) (bB l z) a):(Code.region id l.toArray true).wp P Q a w:=by
 simp only[zOj,qT,decide_eq_true_eq,uE]at hB;obtain⟨⟨⟨⟨⟨⟨⟨⟨⟨⟨⟨⟨⟨hsel,hs1⟩,hc1⟩,hs2⟩,hc2⟩,hd1⟩,hd2⟩,hlt⟩,hzlt⟩,hlen⟩,hcov⟩,hz⟩,hhb⟩,hlex⟩:=hB;have hdis:∀k∈u::tl,k∉hb++ha++al:=λk hk hc=>by have:=hd1 k hc;simp only[Bool.not_eq_true',List.contains_eq_mem,decide_eq_false_iff_not]at this;exact this hk
 have hdis2:∀k∈hb++ha,k∉al++u::tl:=λk hk hc=>by
  rcases jI.1 hc with h1|h1
  ·have:=hd2 k hk;simp only[Bool.not_eq_true',List.contains_eq_mem,decide_eq_false_iff_not]at this;exact this h1
  ·exact hdis k h1 (jI.2 (.inl hk))
 have inv0:HeadBy .any l.toArray (al++u::tl) (Array.replicate l.toArray.size false):=
  ⟨by simp,λj oj _ hl=>(by rw[getD_replicate_false]at hl;cases hl),λx hx=>getD_in (by have:=hlt x hx;simpa using this) (getD_replicate_false _ _)⟩
 have inv1:=HeadBy.setAll z _ inv0 hz;have hI1:∀listed j,(HeadBy .any l.toArray (u::tl) listed/\∀k∈z,listed.getD k false=true)->j∈Region.ready .any l.toArray listed->j∈hb++ha++al->(HeadBy .any l.toArray (u::tl) (listed.setIfInBounds j true)/\∀k∈z,(listed.setIfInBounds j true).getD k false=true):=
  λlisted j h hj hc=>⟨h.1.set hj (λhx=>hdis j hx hc),λk hk=>getD_set_true (h.2 k hk)⟩
 have hw1:∀i,i∈hb++ha++al->∀listed j,(HeadBy .any l.toArray (u::tl) listed/\∀k∈z,listed.getD k false=true)->listed.getD i true=false->j∈Region.ready .any l.toArray listed->j∈hb++ha++al:=by
  intro i hi listed j hI hun hj;obtain⟨hjun,oj,hoj,_⟩:=mem_ready.1 hj;have hjs:j<l.toArray.size:=(Array.getElem?_eq_some_iff.1 hoj).1;have hcj:=hcov j (jZ.2 hjs);simp only[Bool.or_eq_true,List.contains_eq_mem,decide_eq_true_eq]at hcj;rcases hcj with(h1|h1)|h1
  ·have h2:=hI.2 j h1;rw[getD_both hjun]at h2;cases h2
  ·exact h1
  ·exfalso
   rcases jD.1 h1 with rfl|h2
   ·exact zDv hI.1 _ hs1 i hi hun hj
   ·exact zFe tl u hc1 hI.1.tail j h2 hj
 refine wp_region_any hm ?_
 suffices H2:wpAny P .any l.toArray Q (z.length+(hb.length+(ha.length+(al++u::tl).length))) (Array.replicate l.toArray.size false) a {w with drawn:=w.drawn+1}by rw[hlen]at H2;exact H2
 refine zIl hsel hQ z _ a hz h λa' h'=>zCc (C:=C) (cal:=hb++ha++al) _ _ _ _ ?_
 have hinv1:HeadBy .any l.toArray (u::tl) (fN (Array.replicate l.toArray.size false) z):=⟨inv1.size,inv1.closed,λx hx=>inv1.tail x (jI.2 (.inr hx))⟩;refine zDk hsel hQ (λlisted=>HeadBy .any l.toArray (u::tl) listed/\∀k∈z,listed.getD k false=true) hI1 hw1 hC hb _ a' ⟨hinv1,λk hk=>zKh z _ k (by have:=hzlt k hk;simpa using this) (.inl hk)⟩ (λi hi=>by simp[hi]) hhb h' ?_;intro a2 hI2 h2;have inv2:HeadBy .any l.toArray (al++u::tl) (fN (fN (Array.replicate l.toArray.size false) z) hb):=by
  refine⟨hI2.1.size,hI2.1.closed,λx hx=> ?_⟩;have hnz:∀(hb':List Nat) (listed:Array Bool),(∀k∈hb',k≠x)->listed.getD x true=false->(fN listed hb').getD x true=false:=by
   intro hb'
   induction hb' with
   |nil=>intro listed _ h;exact h
   |cons k hb' ih=>intro listed hk h;exact ih _ (λy hy=>hk y (by simp[hy])) (by rw[getD_set_ne true (hk k (by simp))];exact h)
  exact hnz hb _ (λk hk e=>hdis2 k (by simp[hk]) (e▸hx)) (inv1.tail x hx)
 rw[<-zNw]at inv2 hlex;have H:=zRe (md:= .any) (C:=C) hsel hc2 ha _ a2 hs2 (λi hi=>by rw[zNw];exact hdis2 i (by simp[hi])) inv2 hlex h2;refine zMv (g:=(al++u::tl).length) (λlisted a3 w3 hw3 hL=> ?_) _ _ _ _ hC H;have h3:=hL.1;rw[zNw]at h3;exact zMx al listed a3 w3 hdis h3 (hL.2 w3 hw3)
theorem bO{id:Nat}{a:Act}{w:World}{l:List Oper}(z hb ha al:List Nat)(u:Nat)(tl:List Nat)(hm:P.follows .mixedOrders=true)(hB:zOj .any l.toArray z hb ha al u tl=true)(hQ:∀c a d v w,Q (.panic c) (a.put d v) w->Q (.panic c) a w)(h:wpQuiet P l.toArray (λ_=>True) (wpQuiet P l.toArray (λw'=>∃n:Ext w,w'=n.W) (wpQuiet P l.toArray (λw'=>∃n:Ext w,w'=n.W) (λa'=>∀w',(∃n:Ext w,w'=n.W)->fJ P l.toArray Q (λw'=>∃n:Ext w,w'=n.W) (λa2 w2=>wpList P l.toArray Q (bB l (u::tl)) a2 w2) (bB l al) a' w') (bB l ha)) (bB l hb)) (bB l z) a):(Code.region id l.toArray true).wp P Q a w:=
 zKy z hb ha al u tl hm hB hQ ⟨⟨w.drew,(qC _ w).drew⟩,rfl⟩ h
theorem gW{id:Nat}{a:Act}{w:World}{l:List Oper}(z hb ha al:List Nat)(u:Nat)(tl:List Nat)(hm:P.follows .mixedOrders=true)(hB:zOj .any l.toArray z hb ha al u tl=true)(hQ:∀c a d v w,Q (.panic c) (a.put d v) w->Q (.panic c) a w)(h:wpQuiet P l.toArray (λ_=>True) (wpQuiet P l.toArray (λw'=>∃n,w'=w.drewN n) (wpQuiet P l.toArray (λw'=>∃n,w'=w.drewN n) (λa'=>∀w',(∃n,w'=w.drewN n)->fJ P l.toArray Q (λw'=>∃n,w'=w.drewN n) (λa2 w2=>wpList P l.toArray Q (bB l (u::tl)) a2 w2) (bB l al) a' w') (bB l ha)) (bB l hb)) (bB l z) a):(Code.region id l.toArray true).wp P Q a w:=
 zKy z hb ha al u tl hm hB hQ ⟨1,rfl⟩ h
end
def zIu(f:Int->Bool):List Int->Nat->Int
 |[],_=> -1
 |z::l,k=>if f z then k else zIu f l (k+1)
theorem zYn(f:Int->Bool):∀(l:List Int) (k:Nat),decide (0<=zIu f l k)=l.any f
 |[],k=>by simp[zIu]
 |z::l,k=>by
  cases hf:f z with
  |true=>simp[zIu,hf]
  |false=>simp only[zIu,hf,List.any_cons,Bool.false_or];exact zYn f l (k+1)
theorem zYm(fn:FuncId)(cap:Array Value)(f:Int->Bool)(A:Option Addr)(n c:Nat)(zs:List Int)(B:Nat)(Inv:World->Prop)(w:World)(hl:zs.length=n)(hm:n<=maxLen)(hr:∀W,Inv W->Reads W B 1 A n (zs.map (.int .i64)))(hI:Inv w)(hrun:∀args W,(callFunc fn args).run prog W= .ok (.enter fn args) W)(h:∀z W,z∈zs->Inv W->Calls prog fn (#[.int .i64 z]++cap) W λx w'=>x= .returned (.bool (f z))/\Inv w'):Calls prog 76 #[.slice A n c,.func (.func fn) #[] cap] w λe w'=>e= .returned (.int .i64 (zIu f zs 0))/\Inv w':=by
 obtain⟨HR,HL,H,HI⟩:=uK hr hl h hI;unfold maxLen at hm;clear hr hl h hI;go_enter func76,ntmps76;go_wp2_with fail
 go_loopw [8] (λi wr=>∃(k:Nat),k<=n/\i= .int .i64 k/\uS (Inv wr)/\uS (zIu f (zs.drop k) k=zIu f zs 0)) (λi _=>n-(intOf i).toNat)
 case atStart=>exact⟨0,qL _,rfl,HI,rfl⟩
 case round=>
  obtain⟨k,hk,rfl,HW,HX⟩:=hrel;by_cases hlt:k<n
  ·obtain⟨b,o,z,rfl,hbl,hz,hc⟩:=dQ (HR.s _ HW.s) hlt;obtain⟨HX2,H2⟩:=uI (by have h:=HX.s;rw[cZ zs k z hz,zIu]at h;exact h) (H.s z wr (qB hz) HW.s);clear HX hz;cases hf:f z with
   |true=>have HX3:=uT (by have h:=HX2.s;rw[if_pos hf]at h;exact h);rw[hf]at H2;clear HX2;go_wp2_with fail;refine H2.s.mono ?_;rintro _ w2 ⟨rfl,hb2⟩;have HB2:=uT hb2;clear hb2;go_wp2_with fail;go_ret;exact⟨fG HX3.s,HB2.s⟩
   |false=>
    have HX3:=uT (by have h:=HX2.s;rw[if_neg (by rw[hf];simp)]at h;exact h);rw[hf]at H2;clear HX2;go_wp2_with fail;refine H2.s.mono ?_;rintro _ w2 ⟨rfl,hb2⟩;have HB2:=uT hb2;clear hb2;go_wp2_with fail;go_roundw
    case rel=>exact⟨k+1,by omega,by go_num,HB2,HX3.s⟩
    case measure=>simp[intOf];omega
  ·obtain rfl:k=n:=by omega
   have HF:=uT (show zIu f zs 0= -1 by have h:=HX.s;rw[qW (by rw[HL.s];exact qA _)]at h;exact h.symm)
   clear HX;go_wp2_with fail;go_ret;exact⟨fG HF.s.symm,HW.s⟩
theorem zGq(fn:FuncId)(cap:Array Value)(f:Int->Bool)(A:Option Addr)(n c:Nat)(zs:List Int)(B:Nat)(Inv:World->Prop)(w:World)(hl:zs.length=n)(hm:n<=maxLen)(hr:∀W,Inv W->Reads W B 1 A n (zs.map (.int .i64)))(hI:Inv w)(hrun:∀args W,(callFunc fn args).run prog W= .ok (.enter fn args) W)(h:∀z W,z∈zs->Inv W->Calls prog fn (#[.int .i64 z]++cap) W λx w'=>x= .returned (.bool (f z))/\Inv w'):Calls prog 57 #[.slice A n c,.func (.func fn) #[] cap] w λe w'=>e= .returned (.bool (zs.any f))/\Inv w':=by obtain⟨H,HF⟩:=uI (zYm fn cap f A n c zs B Inv w hl hm hr hI hrun h) (zYn f zs 0);obtain⟨x,hx⟩:∃x,zIu f zs 0=x:=⟨_,rfl⟩;rw[hx]at H HF;clear hl hr hI hrun h hm hx;go_enter func57,ntmps57;go_wp2_with fail;refine H.s.mono ?_;rintro _ w2 ⟨rfl,hb2⟩;have HB2:=uT hb2;clear hb2;go_wp2_with fail;go_ret;exact⟨bQ (by rw[<-HF.s]),HB2.s⟩
def zCk:List Int->Int->Int×Int
 |[],b=>((b+7)/8,0)
 |z::l,b=>if z<1\/60<z then(0,2)else zCk l (b+z)
def zAc(zs:List Int):Int×Int:=if 40<zs.length then(0,1)else zCk zs 0
theorem zMt(A:Option Addr)(n c:Nat)(zs:List Int)(B:Nat)(w:World)(hl:zs.length=n)(hm:n<=9223372036854775807)(hr:Reads w B 1 A n (zs.map (.int .i64))):Calls prog 124 #[.slice A n c] w λe w'=>e= .returned (.tuple #[.int .i64 (zAc zs).1,.int .i64 (zAc zs).2])/\w=w':=by
 have HR:=uT hr;clear hr;have HL:=uT hl;clear hl;by_cases h40:40<n
 ·have HF:=uT (show zAc zs=(0,1)by unfold zAc;rw[HL.s,if_pos h40]);go_enter func124,ntmps124;go_wp2_with fail;go_ret2;exact⟨by rw[HF.s];rfl,rfl⟩
 ·have HF:=uT (show zAc zs=zCk zs 0 by unfold zAc;rw[HL.s,if_neg h40]);have h40':n<=40:=by omega
  clear h40;go_enter func124,ntmps124;go_wp2_with fail
  go_loop [4,12] (λb i=>∃(k:Nat) (b0:Nat),k<=n/\i= .int .i64 k/\b= .int .i64 b0/\b0<=60*k/\uS (zCk (zs.drop k) b0=zCk zs 0)) (λ_ i=>n-(intOf i).toNat)
  case atStart=>exact⟨0,0,qL _,rfl,rfl,by omega,rfl⟩
  case round=>
   obtain⟨k,b0,hk,rfl,rfl,hb,HI⟩:=hrel;by_cases hlt:k<n
   ·obtain⟨ad,u,rfl,_,hz,hc⟩:=yCk HR.s hlt;have HI2:=uT (by have h:=HI.s;rw[cZ zs k u hz,zCk]at h;exact h);clear HI hz;by_cases h1:u<1\/60<u
    ·have HG:=uT (by have h:=HI2.s;rw[if_pos h1]at h;exact h);clear HI2;rcases h1 with h1|h1
     all_goals
      go_wp2_with fail;go_ret2;exact⟨by rw[HF.s,<-HG.s];rfl,rfl⟩
    ·have HG:=uT (by have h:=HI2.s;rw[if_neg h1]at h;exact h);clear HI2;obtain⟨u,rfl⟩:=qP (show 0<=u by omega);have h2:1<=u:=by omega
     have h3:u<=60:=by omega
     clear h1;go_wp2_with fail
     go_round
     case rel=>exact⟨k+1,b0+u,by omega,by go_num,by go_num,by omega,HG.s⟩
     case measure=>simp[intOf];omega
   ·obtain rfl:k=n:=by omega
    have HG:=uT (by have h:=HI.s;rw[qW (by rw[HL.s];exact qA _),zCk]at h;exact h);clear HI;go_wp2_with fail;go_ret2;exact⟨by rw[HF.s,<-HG.s];rfl,rfl⟩
theorem zNo(A:Option Addr)(n c:Nat)(zs:List Int)(B:Nat)(w:World)(hl:zs.length=n)(hm:n<=9223372036854775807)(hr:Reads w B 1 A n (zs.map (.int .i64))):Calls prog 118 #[.slice A n c] w λe w'=>e= .returned (.tuple #[.int .i64 (zAc zs).1,.int .i64 (zAc zs).2])/\w=w':=by
 have HR:=uT hr;clear hr;have HL:=uT hl;clear hl;by_cases h40:40<n
 ·have HF:=uT (show zAc zs=(0,1)by unfold zAc;rw[HL.s,if_pos h40]);go_enter func118,ntmps118;go_wp2_with fail;go_ret2;exact⟨by rw[HF.s];rfl,rfl⟩
 ·have HF:=uT (show zAc zs=zCk zs 0 by unfold zAc;rw[HL.s,if_neg h40]);have h40':n<=40:=by omega
  clear h40;go_enter func118,ntmps118;go_wp2_with fail
  go_loop [4,13] (λb i=>∃(k:Nat) (b0:Nat),k<=n/\i= .int .i64 k/\b= .int .i64 b0/\b0<=60*k/\uS (zCk (zs.drop k) b0=zCk zs 0)) (λ_ i=>n-(intOf i).toNat)
  case atStart=>exact⟨0,0,qL _,rfl,rfl,by omega,rfl⟩
  case round=>
   obtain⟨k,b0,hk,rfl,rfl,hb,HI⟩:=hrel;by_cases hlt:k<n
   ·obtain⟨ad,u,rfl,_,hz,hc⟩:=yCk HR.s hlt;have HI2:=uT (by have h:=HI.s;rw[cZ zs k u hz,zCk]at h;exact h);clear HI hz;by_cases h1:u<1\/60<u
    ·have HG:=uT (by have h:=HI2.s;rw[if_pos h1]at h;exact h);clear HI2;rcases h1 with h1|h1
     all_goals
      go_wp2_with fail;go_ret2;exact⟨by rw[HF.s,<-HG.s];rfl,rfl⟩
    ·have HG:=uT (by have h:=HI2.s;rw[if_neg h1]at h;exact h);clear HI2;obtain⟨u,rfl⟩:=qP (show 0<=u by omega);have h2:1<=u:=by omega
     have h3:u<=60:=by omega
     clear h1;go_wp2_with fail
     go_round
     case rel=>exact⟨k+1,b0+u,by omega,by go_num,by go_num,by omega,HG.s⟩
     case measure=>simp[intOf];omega
   ·obtain rfl:k=n:=by omega
    have HG:=uT (by have h:=HI.s;rw[qW (by rw[HL.s];exact qA _),zCk]at h;exact h);clear HI;go_wp2_with fail
    go_loop [7] (λt=>∃t0:Nat,8*t0<=b0+7/\t= .int .i64 t0) (λt=>(b0+7)/8-(intOf t).toNat)
    case atStart=>exact⟨0,by omega,rfl⟩
    case round=>
     obtain⟨t0,ht,rfl⟩:=hrel;by_cases hlt2:8*t0<b0
     ·go_wp2_with fail
      go_round
      case rel=>exact⟨t0+1,by omega,by go_num⟩
      case measure=>simp[intOf];omega
     ·have HE:=uT (show((t0:Nat):Int)=((b0:Int)+7)/8 by omega);go_wp2_with fail;go_ret2;exact⟨by rw[HF.s,<-HG.s,<-HE.s];rfl,rfl⟩
theorem zQo(r:Nat)(hr:r<=7):2^r<=128:=qN (Nat.pow_le_pow_right (by omega) hr) (by omega)
theorem zTr(old bit r:Nat)(hr:r<8)(hbit:bit<=1)(hold:old<=255)(hlow:old%2^(8-r)=0):bits .or .u8 (old:Int) (wrap64 ((bit:Int)*2^(7-r))%256)=((old+bit*2^(7-r):Nat):Int)/\old+bit*2^(7-r)<=255:=by
 have hp:=zQo (7-r) (by omega);have hy:bit*2^(7-r)<=128:=by
  rcases(show bit=0\/bit=1 by omega)with rfl|rfl
  ·simp
  ·simpa using hp
 have e1:((bit:Int)*2^(7-r))=((bit*2^(7-r):Nat):Int):=by simp
 have e2:wrap64 ((bit*2^(7-r):Nat):Int)%256=((bit*2^(7-r):Nat):Int):=by unfold wrap64;omega
 have hlt:bit*2^(7-r)<2^(8-r):=by
  have e:2^(8-r)=2*2^(7-r):=by rw[show 8-r=(7-r)+1 from by omega,Nat.pow_succ];omega
  rw[e];have hpos:0<2^(7-r):=Nat.pow_pos (by omega);rcases(show bit=0\/bit=1 by omega)with rfl|rfl
  ·simpa using hpos
  ·omega
 have hj:=nat_join (8-r) old (bit*2^(7-r)) hlow hlt;have hor:=Nat.or_lt_two_pow (n:=8) (show old<2^8 by omega) (show bit*2^(7-r)<2^8 by omega);rw[hj]at hor;rw[e1,e2,u8_or_nat old _ (by omega) (by omega),hj];exact⟨rfl,by omega⟩
theorem zYz(g h:Nat)(m c at0 bit:Nat)(old:Nat)(w:World)(hw:at0/8<m)(hc:m<=c)(hat:at0<=1000000)(hbit:bit<=1)(hold:old<=255)(hlow:old%2^(8-at0%8)=0)(c0:w.cell? ⟨g,0,none⟩=some (.slice (some ⟨h,0,none⟩) m c))(c1:w.cell? ⟨g,1,none⟩=some (.int .i64 at0))(c2:w.cell? ⟨h,at0/8,none⟩=some (.int .u8 old))(f1:w.frozen? ⟨g,1,none⟩=false)(f2:w.frozen? ⟨h,at0/8,none⟩=false)(hgh:h≠g):Calls prog 125 #[.pointer (some ⟨g,0,none⟩),.int .i64 bit] w λe w'=>e= .returned (.tuple #[])/\ ((w.setCell ⟨h,at0/8,none⟩ (.int .u8 ((old+bit*2^(7-at0%8):Nat):Int))).setCell ⟨g,1,none⟩ (.int .i64 (at0+1))).drew=w':=by
 have hv:=(zTr old bit (at0%8) (Nat.mod_lt _ (by omega)) hbit hold hlow).1;go_enter func125,ntmps125;go_wp2_with fail
 go_region
 go_wp2
 go_end0
 exact⟨rfl,rfl⟩
def dP(bs:List Nat):Nat->Nat->Nat
 |_,0=>0
 |i,k+1=>2*dP bs i k+bs.getD (i+k) 0
def byteOf(bs:List Nat)(i:Nat):Nat:=dP bs (8*i) 8
def bytesOf(bs:List Nat)(n:Nat):List Int:=(List.range n).map λi=>(byteOf bs i:Int)
def cT(f:Int×Int):List Nat:=(List.range f.1.toNat).map λk=>f.2.toNat/2^(f.1.toNat-1-k)%2
def bH(fs:List (Int×Int)):List Nat:=fs.flatMap cT
def zBp(f:Int×Int):Bool:=decide (0<=f.2/\f.2<2^f.1.toNat)
def gM(fs:List (Int×Int)):List Int×Int:=
 if(zAc (fs.map (·.1))).2≠0 then([],(zAc (fs.map (·.1))).2)else if fs.all zBp then(bytesOf (bH fs) (zAc (fs.map (·.1))).1.toNat,0)else([],12)
theorem zRf(bs:List Nat)(h:∀b∈bs,b<=1)(i k:Nat):dP bs i k<2^k:=by
 induction k with
 |zero=>simp[dP]
 |succ k ih=>
  have:bs.getD (i+k) 0<=1:=by
   rw[qG];cases hg:bs[i+k]? with
   |none=>simp
   |some b=>exact h b (qB hg)
  rw[dP,Nat.pow_succ];omega
theorem zGt(bs:List Nat)(b i k:Nat)(h:i+k<=bs.length):dP (bs++[b]) i k=dP bs i k:=by
 induction k with
 |zero=>rfl
 |succ k ih=>
  rw[dP,dP,ih (by omega)]
  congr 1
  rw[qG,qG,List.getElem?_append_left (by omega)]
theorem zNh(bs:List Nat)(b i k:Nat)(h:bs.length<i):dP (bs++[b]) i k=dP bs i k:=by
 induction k with
 |zero=>rfl
 |succ k ih=>
  rw[dP,dP,ih]
  congr 1
  rw[qG,qG,qU (by simp;omega),qU (by omega)]
theorem zRd(bs:List Nat)(b i k:Nat)(h:i<=bs.length)(h2:bs.length<i+k):dP (bs++[b]) i k=dP bs i k+b*2^(i+k-1-bs.length):=by
 induction k with
 |zero=>omega
 |succ k ih=>
  rw[dP,dP];by_cases he:bs.length=i+k
  ·have g1:(bs++[b]).getD (i+k) 0=b:=by rw[<-he];simp
   have g2:bs.getD (i+k) 0=0:=by rw[qG,qU (by omega)];rfl
   rw[zGt bs b i k (by omega),g1,g2,show i+(k+1)-1-bs.length=0 by omega];simp
  ·rw[ih (by omega),qG,qG,qU (by simp;omega),qU (by omega)];rw[show i+(k+1)-1-bs.length=(i+k-1-bs.length)+1 by omega,Nat.pow_succ,Nat.mul_add];simp[Nat.mul_comm,Nat.mul_left_comm]
theorem yAk(bs:List Nat)(i k:Nat)(h:i<=bs.length)(h2:bs.length<=i+k):dP bs i k%2^(i+k-bs.length)=0:=by
 induction k with
 |zero=>simp[dP]
 |succ k ih=>
  by_cases he:bs.length=i+(k+1)
  ·rw[he];simp[Nat.mod_one]
  ·rw[dP,qG,qU (by omega),show i+(k+1)-bs.length=(i+k-bs.length)+1 by omega,Nat.pow_succ];have:=ih (by omega);simp only[Option.getD_none,Nat.add_zero];rw[Nat.mul_comm 2,Nat.mul_mod_mul_right,this,Nat.zero_mul]
theorem zJk(bs:List Nat)(b n:Nat)(hn:bs.length/8<n):bytesOf (bs++[b]) n=(bytesOf bs n).set (bs.length/8) ((byteOf bs (bs.length/8)+b*2^(7-bs.length%8):Nat):Int):=by
 refine List.ext_getElem (by simp[bytesOf]) λi h1 h2=> ?_
 simp only[bytesOf,List.getElem_map,List.getElem_range,List.getElem_set];by_cases he:bs.length/8=i
 ·rw[if_pos he,<-he];unfold byteOf;rw[zRd bs b _ 8 (by omega) (by omega)];rw[show 8*(bs.length/8)+8-1-bs.length=7-bs.length%8 by omega]
 ·rw[if_neg he];unfold byteOf;rcases Nat.lt_or_gt_of_ne he with h|h
  ·rw[zNh bs b _ 8 (by omega)]
  ·rw[zGt bs b _ 8 (by omega)]
theorem zLk(bs:List Nat):byteOf bs (bs.length/8)%2^(8-bs.length%8)=0:=by have:=yAk bs (8*(bs.length/8)) 8 (by omega) (by omega);rw[show 8*(bs.length/8)+8-bs.length=8-bs.length%8 by omega]at this;exact this
theorem zDl(bs:List Nat)(h:∀b∈bs,b<=1)(i:Nat):byteOf bs i<=255:=by have:=zRf bs h (8*i) 8;unfold byteOf;omega
theorem yBf(n:Nat):bytesOf [] n=List.replicate n 0:=by
 refine List.ext_getElem (by simp[bytesOf]) λi h1 h2=> ?_
 simp[bytesOf,byteOf,dP]
theorem yAy(bs:List Nat)(p i k:Nat):dP (bs++List.replicate p 0) i k=dP bs i k:=by
 induction k with
 |zero=>rfl
 |succ k ih=>
  rw[dP,dP,ih]
  congr 1
  rw[qG,qG,List.getElem?_append]
  split
  ·rfl
  ·rename_i h;have h2:bs[i+k]? =none:=qU (by omega);rw[h2,jV]
   split<;>rfl
theorem zMu(f:Int×Int):∀b∈cT f,b<=1:=by intro b hb;simp only[cT,jC]at hb;obtain⟨k,_,rfl⟩:=hb;omega
theorem zBw(fs:List (Int×Int)):∀b∈bH fs,b<=1:=by intro b hb;simp only[bH,List.mem_flatMap]at hb;obtain⟨f,_,hf⟩:=hb;exact zMu f b hf
theorem gP(f:Int×Int):(cT f).length=f.1.toNat:=by simp[cT]
def gL(f:Int×Int):List Value:=[.int .i64 f.1,.int .i64 f.2]
theorem zDd(f:Int×Int):(gL f).length=2:=rfl
def zJi(fs:List (Int×Int))(k:Nat):List Value:=((fs.take k).map (·.1)).map (Value.int .i64)
theorem zOq(fs:List (Int×Int))(k:Nat)(f:Int×Int)(h:fs[k]? =some f):zJi fs (k+1)=zJi fs k++[.int .i64 f.1]:=by simp[zJi,dB fs k f h]
theorem zRw(fs:List (Int×Int)):zJi fs fs.length=(fs.map (·.1)).map (Value.int .i64):=by simp[zJi]
theorem zIy:(prog.info? 3).map (λi=>(i.zero,i.size,i.bytes))=some (some (.int .i64 0),1,8):=by kernel_rfl
theorem yCh:(prog.info? 5).map (λi=>(i.zero,i.size,i.bytes))=some (some (.int .u8 0),1,1):=by kernel_rfl
theorem szGo_ok(zs:List Int)(b N:Nat)(h:zCk zs b=((N:Int),0)):(∀z∈zs,1<=z/\z<=60)/\N=(b+(zs.map Int.toNat).sum+7)/8:=by
 induction zs generalizing b with
 |nil=>simp only[zCk,Prod.mk.injEq]at h;exact⟨by simp,by simp;omega⟩
 |cons z l ih=>
  rw[zCk]at h;by_cases h1:z<1\/60<z
  ·rw[if_pos h1]at h;simp at h
  ·rw[if_neg h1]at h;obtain⟨z,rfl⟩:=qP (show 0<=z by omega);have:=ih (b+z) (by rw[<-h];simp);refine⟨λy hy=> ?_,by rw[this.2];simp;omega⟩;rcases jD.1 hy with rfl|hy
   ·omega
   ·exact this.1 y hy
theorem yEo(zs:List Int)(b:Nat):zCk zs b=(0,2)\/∃N:Nat,zCk zs b=((N:Int),0):=by
 induction zs generalizing b with
 |nil=>exact .inr ⟨(b+7)/8,by simp[zCk]⟩
 |cons z l ih=>
  rw[zCk];by_cases h1:z<1\/60<z
  ·exact .inl (by rw[if_pos h1])
  ·rw[if_neg h1];obtain⟨z,rfl⟩:=qP (show 0<=z by omega);exact ih (b+z)
theorem zHg(zs:List Int):(zAc zs=(0,1))\/(zAc zs=(0,2))\/∃N:Nat,zAc zs=((N:Int),0)/\zs.length<=40/\(∀z∈zs,1<=z/\z<=60)/\N=((zs.map Int.toNat).sum+7)/8:=by
 unfold zAc;by_cases h:40<zs.length
 ·exact .inl (by rw[if_pos h])
 ·rw[if_neg h];rcases yEo zs 0 with h1|⟨N,h1⟩
  ·exact .inr (.inl h1)
  ·have:=szGo_ok zs 0 N h1;exact .inr (.inr ⟨N,h1,by omega,this.1,by simpa using this.2⟩)
theorem zFc(fs:List (Int×Int)):(bH fs).length=((fs.map (·.1)).map Int.toNat).sum:=by
 induction fs with
 |nil=>rfl
 |cons f l ih=>
  have:bH (f::l)=cT f++bH l:=by simp[bH]
  rw[this,qM,ih,gP];simp
theorem zGc(fs:List (Int×Int))(k:Nat)(f:Int×Int)(h:fs[k]? =some f):bH (fs.take (k+1))=bH (fs.take k)++cT f:=by rw[dB fs k f h];simp[bH]
theorem zJn(fs:List (Int×Int))(k:Nat):(bH (fs.take k)).length<=(bH fs).length:=by
 have e:bH fs=bH (fs.take k)++bH (fs.drop k):=by unfold bH;rw[<-jN,jW]
 rw[e,qM];omega
theorem zSe(zs:List Int)(h:∀z∈zs,1<=z/\z<=60):(zs.map Int.toNat).sum<=60*zs.length:=by
 induction zs with
 |nil=>simp
 |cons z l ih=>have h1:=h z (by simp);have h2:=ih (λy hy=>h y (by simp[hy]));simp only[qJ,List.sum_cons,jG];omega
theorem zKq(w:Nat)(v:Nat)(t:Nat)(ht:t<w):(cT ((w:Int),(v:Int))).take (t+1)=(cT ((w:Int),(v:Int))).take t++[v/2^(w-1-t)%2]:=by refine dB _ t _ ?_;simp[cT,ht]
def PackAt(W w:World)(g h N:Nat)(bs:List Nat):Prop:=
 uR W w/\W.heap.size<=h/\g=h+1/\Blk w g 208 #[.slice (some ⟨h,0,none⟩) N N,.int .i64 bs.length]/\Blk w h 5 ((bytesOf bs N).map (Value.int .u8)).toArray
theorem PackAt.put{W w:World}{g h N:Nat}{bs:List Nat}(H:PackAt W w g h N bs)(b:Nat)(hn:bs.length/8<N):PackAt W (((w.setCell ⟨h,bs.length/8,none⟩ (.int .u8 ((byteOf bs (bs.length/8)+b*2^(7-bs.length%8):Nat):Int))).setCell ⟨g,1,none⟩ (.int .i64 (bs.length+1))).drew) g h N (bs++[b]):=by
 obtain⟨hb,hh,rfl,h1,h2⟩:=H;have h1':=((h1.far (p:=⟨h,bs.length/8,none⟩) (by simp) (.int .u8 ((byteOf bs (bs.length/8)+b*2^(7-bs.length%8):Nat):Int))).set_ 1 (.int .i64 (bs.length+1))).drew;have h2':=((h2.set_ (bs.length/8) (.int .u8 ((byteOf bs (bs.length/8)+b*2^(7-bs.length%8):Nat):Int))).far (p:=⟨h+1,1,none⟩) (by simp) (.int .i64 (bs.length+1))).drew;refine⟨((hb.setCell (by simpa using hh) _).setCell (by simp;omega) _).drew,hh,rfl,?_,?_⟩
 ·simpa using h1'
 ·rw[zJk bs b N hn];have e:(((bytesOf bs N).set (bs.length/8) ((byteOf bs (bs.length/8)+b*2^(7-bs.length%8):Nat):Int)).map (Value.int .u8)).toArray=
      (((bytesOf bs N).map (Value.int .u8)).toArray).setIfInBounds (bs.length/8) (.int .u8 ((byteOf bs (bs.length/8)+b*2^(7-bs.length%8):Nat):Int)):=by
   simp[List.map_set]
  rw[e];exact h2'
theorem PackAt.alloc{W w:World}{g h N:Nat}{bs:List Nat}(H:PackAt W w g h N bs)(o:Obj):PackAt W (w.alloc o) g h N bs:=
 ⟨H.1.alloc H.1.size o,H.2.1,H.2.2.1,H.2.2.2.1.alloc o,H.2.2.2.2.alloc o⟩
theorem shr_and1(v j:Nat)(hv:v<=9223372036854775807):bits .and .i64 ((v:Int)/2^j) 1=((v/2^j%2:Nat):Int):=by
 have e:((v:Int)/2^j)=((v/2^j:Nat):Int):=by simp
 have hd:v/2^j<=v:=Nat.div_le_self _ _;rw[e,show(1:Int)=((1:Nat):Int)from rfl,zBz _ _ (by omega) (by omega),Nat.and_one_is_mod]
theorem zGl{wd:Nat}(h:wd<=60):2^wd<=1152921504606846976:=qN (Nat.pow_le_pow_right (by omega) h) (by omega)
theorem PackAt.reads{W w:World}{g h N:Nat}{bs:List Nat}(H:PackAt W w g h N bs)(hn:bs.length/8<N):w.cell? ⟨g,0,none⟩=some (.slice (some ⟨h,0,none⟩) N N)/\w.cell? ⟨g,1,none⟩=some (.int .i64 bs.length)/\w.cell? ⟨h,bs.length/8,none⟩=some (.int .u8 (byteOf bs (bs.length/8)))/\ w.frozen? ⟨g,1,none⟩=false/\w.frozen? ⟨h,bs.length/8,none⟩=false/\h≠g:=by obtain⟨hb,hh,rfl,h1,h2⟩:=H;refine⟨by rw[h1.cell];rfl,by rw[h1.cell];rfl,?_,h1.frozen 1,h2.frozen _,by omega⟩;rw[h2.cell];simp[bytesOf,hn]
def But2(w w':World)(g h:Nat):Prop:=w'.heap.size=w.heap.size/\∀b,b≠g->b≠h->w'.heap[b]? =w.heap[b]?
theorem But2.blk{w w':World}{g h b:Nat}{t:TypeId}{cs:Array Value}(H:But2 w w' g h)(hb:Blk w b t cs)(hg:b≠g)(hh:b≠h):Blk w' b t cs:=(H.2 b hg hh).trans hb
theorem yAl(W w:World)(g h N bit:Nat)(bs:List Nat)(H:PackAt W w g h N bs)(hn:bs.length/8<N)(hat:bs.length<=1000000)(hbit:bit<=1)(hle:∀b∈bs,b<=1):Calls prog 125 #[.pointer (some ⟨g,0,none⟩),.int .i64 bit] w λe w'=>e= .returned (.tuple #[])/\PackAt W w' g h N (bs++[bit])/\But2 w w' g h:=by obtain⟨d0,d1,d2,e1,e2,e3⟩:=H.reads hn;refine(zYz g h N N bs.length bit (byteOf bs (bs.length/8)) w hn (qA _) hat hbit (zDl _ hle _) (zLk _) d0 d1 d2 e1 e2 e3).mono ?_;rintro e w' ⟨rfl,rfl⟩;refine⟨rfl,H.put bit hn,by simp[World.setCell,World.drew],λb hg hh=> ?_⟩;exact(Below.heap_setCell _ _ _ _ (by simpa using hg)).trans (Below.heap_setCell _ _ _ _ (by simpa using hh))
def Packed(W:World)(v:Value)(w:World)(bs:List Int):Prop:=w.ownsRow W.heap.size 5 1 v bs.length (bs.map (.int .u8))/\uR W w
def zZj(fs:List (Int×Int))(W:World)(e:Ending)(w:World):Prop:=∃v,e= .returned (.tuple #[v,.int .i64 (gM fs).2])/\Packed W v w (gM fs).1
theorem zNl(A:Option Addr)(n c:Nat)(fs:List (Int×Int))(w:World)(hl:fs.length=n)(hm:n*16<=140737488351232)(hr:Reads w w.heap.size 2 A n (fs.flatMap gL)):Calls prog 103 #[.slice A n c] w (zZj fs w):=by
 obtain⟨i0,hi,hz0,hz1,hz2⟩:=info_parts zIy;have HR:=uT hr;clear hr;have HL:=uT hl;clear hl;go_enter func103,ntmps103;go_wp2_with fail
 go_loopw [4,15] (λv i wr=>∃(k:Nat),k<=n/\i= .int .i64 k/\wr.ownsRow w.heap.size 3 1 v k (zJi fs k)/\uR w wr) (λ_ i _=>n-(intOf i).toNat)
 case atStart=>exact⟨0,qL _,rfl,qH _ _ _ _,qC _ _⟩
 case round=>
  obtain⟨k,hk,rfl,hown,hb⟩:=hrel;by_cases hlt:k<n
  ·obtain⟨b,o,f,rfl,hab,hf,hc⟩:=fB zDd (by omega) (HR.s.below hb) hlt HL.s;have c0:wr.cell? ⟨b,o+k*2,none⟩=some (.int .i64 f.1):=hc 0 _ rfl;have c1:wr.cell? ⟨b,o+k*2+1,none⟩=some (.int .i64 f.2):=hc 1 _ rfl;have HF:=uT hf;clear hc hf;have hsz:=hb.size;go_wp2_with(first
    |(at_builtin;(refine bF _ rfl (.tmp 19) (.tmp 22) _ rfl w.heap.size 3 i0 _ 1 8 underlying22 hi hz0 hz1 hz2 rfl (by omega) (by omega) _ _ _ (hown.alloc _) rfl _ 1 _ rfl (by simp) rfl (by simp[Value.oneCell']) (by omega) (by omega) ?_);intro g cap w1 hg hown1 hbel1 _ _))
   go_roundw
   case rel=>exact⟨k+1,by omega,by go_num,by rw[zOq fs k f HF.s];exact hown1,hbel1 _ _ (qA _) (hb.alloc hsz _)⟩
   case measure=>simp[intOf];omega
  ·obtain rfl:k=n:=by omega
   obtain⟨Aw,cw,rfl,hcw⟩:=bE hown;have hrw:Reads wr wr.heap.size 1 Aw k ((fs.map (·.1)).map (Value.int .i64)):=by rw[<-zRw fs,HL.s];exact Reads.of_own hown
   have HC:=uT (zMt Aw k cw (fs.map (·.1)) _ wr (by rw[qQ];exact HL.s) (by omega) hrw);clear hrw;have HW:=uT (And.intro hown hb);have hsz:=hb.size;clear hown hb;rcases zHg (fs.map (·.1))with hs|hs|⟨N,hs,h40,hw60,hN⟩
   ·obtain⟨HC2,HP⟩:=uI (by have h:=HC.s;rw[hs]at h;exact h) (show gM fs=([],1)by unfold gM;rw[hs];rfl);clear HC hs;go_wp2_with fail;refine HC2.s.mono ?_;rintro e w' ⟨rfl,rfl⟩;go_wp2_with fail;go_ret2;exact⟨_,by rw[HP.s];rfl,by rw[HP.s];exact⟨qH _ _ _ _,HW.s.2⟩⟩
   ·obtain⟨HC2,HP⟩:=uI (by have h:=HC.s;rw[hs]at h;exact h) (show gM fs=([],2)by unfold gM;rw[hs];rfl);clear HC hs;go_wp2_with fail;refine HC2.s.mono ?_;rintro e w' ⟨rfl,rfl⟩;go_wp2_with fail;go_ret2;exact⟨_,by rw[HP.s];rfl,by rw[HP.s];exact⟨qH _ _ _ _,HW.s.2⟩⟩
   ·obtain⟨HC2,HP⟩:=uI (by have h:=HC.s;rw[hs]at h;exact h) (show gM fs=if fs.all zBp then(bytesOf (bH fs) N,0)else([],12)by unfold gM;rw[hs];simp);rw[<-zFc]at hN;have hN2:8*N<=(bH fs).length+7:=by omega
    have hN3:(bH fs).length<=8*N:=by omega
    have hk40:k<=40:=by rw[qQ,HL.s]at h40;exact h40
    have hN4:N<=300:=by have:=zSe (fs.map (·.1)) hw60;rw[<-zFc]at this;omega
    have HW60:=uT hw60;clear HC hs hN h40 hw60;obtain⟨i8,hi8,hz80,hz81,hz82⟩:=info_parts yCh;have hmk:=λW=>dN (P:=prog) 55 5 i8 _ underlying55 hi8 hz80 .i64 .i64 N N (qA _) (by rw[hz82];omega) (by omega) W
    rw[hz81]at hmk;go_wp2_with fail;refine HC2.s.mono ?_;rintro e w' ⟨rfl,rfl⟩;go_wp2_with fail;obtain⟨wo,rfl⟩:=kB wr
    go_loopw [39] (λi wx=>∃(j:Nat),j<=k/\i= .int .i64 j/\PackAt w wx (wo.heap.size+1) wo.heap.size N (bH (fs.take j))/\uS ((fs.take j).all zBp=true)) (λi _=>k-(intOf i).toNat)
    case atStart=>
     refine⟨0,qL _,rfl,⟨?_,hsz,rfl,?_,?_⟩,rfl⟩
     ·exact((HW.s.2.alloc hsz _).alloc (by simp;omega) _)
     ·have:=Blk.new (wo.alloc (.cells (madeCells #[.int .u8 0] N) 5)) 208 #[.slice (some ⟨wo.heap.size,0,none⟩) N N,.int .i64 0];simpa[bH]using this
     ·have:=(Blk.new wo 5 (madeCells #[.int .u8 0] N)).alloc (.cells #[.slice (some ⟨wo.heap.size,0,none⟩) N N,.int .i64 0] 208);have e:((bytesOf (bH (fs.take 0)) N).map (Value.int .u8)).toArray=madeCells #[.int .u8 0] N:=by rw[<-uD,toList_madeCells_one];simp[bH,yBf]
      rw[e];exact this
    case round=>
     obtain⟨j,hj,rfl,HA,HO⟩:=hrel;have HA':=uT HA;by_cases hlt2:j<k
     ·obtain⟨b,o,f,rfl,hab,hf,hc⟩:=fB zDd (by omega) (HR.s.below HA.1) hlt2 HL.s;obtain⟨wd,v⟩:=f;have hwd:=HW60.s wd (jC.2 ⟨_,qB hf,rfl⟩);obtain⟨wd,rfl⟩:=qP (show 0<=wd by omega);have hwd1:1<=wd:=by omega
      have hwd2:wd<=60:=by omega
      have c0:wr.cell? ⟨b,o+j*2,none⟩=some (.int .i64 wd):=hc 0 _ rfl;have c1:wr.cell? ⟨b,o+j*2+1,none⟩=some (.int .i64 v):=hc 1 _ rfl;have HF:=uT hf;have hlenj:=zJn fs (j+1);rw[zGc fs j _ hf,qM,gP]at hlenj;simp only[qR]at hlenj;have HLJ:=uT hlenj;have hszx:=HA.1.size;clear hc hf hwd HA hlenj;have HNO:zBp ((wd:Int),v)=false->uS (gM fs=([],12)):=by
       intro hno;have:fs.all zBp=false:=by rw[List.all_eq_false];exact⟨_,qB HF.s,by rw[hno];simp⟩
       exact uT (by rw[HP.s,this];rfl)
      by_cases hv0:v<0
      ·have HQ:=HNO (by simp[zBp];omega);clear HNO;go_wp2_with fail;go_ret2;exact⟨_,by rw[HQ.s];rfl,by rw[HQ.s];exact⟨qH _ _ _ _,HA'.s.1.alloc hszx _⟩⟩
      ·obtain⟨v,rfl⟩:=qP (show 0<=v by omega);clear hv0;by_cases hfit:v<2^wd
       ·have hdiv:(v:Int)/2^wd=0:=by
         have:((v/2^wd:Nat):Int)=0:=by rw[Nat.div_eq_of_lt hfit];rfl
         simpa using this
        clear HNO;have HFIT:=uT hfit;clear hfit;go_wp2_with fail;obtain⟨wz,rfl⟩:=kB wr;have hv9:v<=9223372036854775807:=by have:=zGl hwd2;have:=HFIT.s;omega
        have hF:wo.heap.size+1<wz.heap.size:=HA'.s.2.2.2.1.lt
        go_loopw [12] (λq wy=>∃(t:Nat),t<=wd/\q= .int .i64 ((wd:Int)-1-(t:Int))/\PackAt w wy (wo.heap.size+1) wo.heap.size N (bH (fs.take j)++(cT ((wd:Int),(v:Int))).take t)/\
            Blk wy wz.heap.size 179 #[.int .i64 wd,.int .i64 v]) (λq _=>(intOf q+1).toNat)
        case atStart=>exact⟨0,qL _,by simp,by simpa using HA'.s.alloc _,Blk.new wz _ _⟩
        case round=>
         obtain⟨t,ht,rfl,HPA,HB⟩:=hrel;by_cases htl:t<wd
         ·have hbl:(bH (fs.take j)++(cT ((wd:Int),(v:Int))).take t).length=(bH (fs.take j)).length+t:=by rw[qM,qY,gP];simp;omega
          have hle:∀b∈bH (fs.take j)++(cT ((wd:Int),(v:Int))).take t,b<=1:=by
           intro b hb;rcases jI.1 hb with hb|hb
           ·exact zBw _ b hb
           ·exact zMu _ b (List.mem_of_mem_take hb)
          have HPUT:=uT (yAl w wr (wo.heap.size+1) wo.heap.size N (v/2^(wd-1-t)%2) _ HPA (by have:=HLJ.s;omega) (by have:=HLJ.s;omega) (by omega) hle);rw[jK,<-zKq wd v t htl]at HPUT;have b0:wr.cell? ⟨wz.heap.size,1,none⟩=some (.int .i64 v):=by rw[HB.cell];rfl
          have hbit:=shr_and1 v (wd-1-t) hv9;have HBH:=uT HB;clear hbl hle HPA HB;go_wp2_with fail;refine HPUT.s.mono ?_;rintro e w1 ⟨rfl,HP1,HB2⟩;obtain⟨HBN,HPN⟩:=uI (HB2.blk HBH.s (by omega) (by omega)) HP1;clear HP1 HB2;go_wp2_with fail;go_roundw
          case rel=>exact⟨t+1,by omega,by go_num,HPN.s,HBN.s⟩
          case measure=>simp[intOf];omega
         ·obtain rfl:t=wd:=by omega
          have HPN:=uT HPA;clear HPA HB;go_wp2_with fail;go_roundw
          case rel=>
           refine⟨j+1,by omega,by go_num,?_,?_⟩
           ·have h:=HPN.s;have htk:(cT ((t:Int),(v:Int))).take t=cT ((t:Int),(v:Int)):=qS (by rw[gP];simp);rw[htk,<-zGc fs j _ HF.s]at h;exact h
           ·show(fs.take (j+1)).all zBp=true;rw[dB fs j _ HF.s,List.all_append,HO.s];have:=HFIT.s;simp only[List.all_cons,List.all_nil,Bool.and_true,Bool.true_and,zBp,qR,decide_eq_true_eq];exact⟨by omega,by exact_mod_cast this⟩
          case measure=>simp[intOf];omega
       ·have HQ:=HNO (by simp only[zBp,qR,decide_eq_false_iff_not];intro h;exact hfit (by have:=h.2;exact_mod_cast this));have hdiv:(0:Int)<(v:Int)/2^wd:=by
         have h1:0<v/2^wd:=Nat.div_pos (by omega) (Nat.pow_pos (by omega));have:(0:Int)<((v/2^wd:Nat):Int):=by omega
         simpa using this
        clear HNO hfit;go_wp2_with fail;go_ret2;exact⟨_,by rw[HQ.s];rfl,by rw[HQ.s];exact⟨qH _ _ _ _,HA'.s.1.alloc hszx _⟩⟩
     ·obtain rfl:j=k:=by omega
      have hall:fs.take j=fs:=qS (by rw[HL.s];exact qA _);have HQ:=uT (show gM fs=(bytesOf (bH fs) N,0)by rw[HP.s];have h:=HO.s;rw[hall]at h;rw[h];rfl);rw[hall]at HA HA';clear hall;have d0:wr.cell? ⟨wo.heap.size+1,0,none⟩=some (.slice (some ⟨wo.heap.size,0,none⟩) N N):=by rw[HA.2.2.2.1.cell];rfl
      clear HA;go_wp2_with fail;go_ret2;refine⟨_,by rw[HQ.s];rfl,?_⟩;rw[HQ.s];obtain⟨g1,g2,_,g4,g5⟩:=HA'.s;refine⟨⟨by simp[bytesOf],.inr ⟨wo.heap.size,N,_,by simp[bytesOf],g2,g5,by simp[bytesOf],by unfold maxLen;omega,by simp[bytesOf],by simp only[bytesOf,qQ,List.length_range,Nat.mul_one];exact qS (by simp)⟩⟩,g1⟩
end Go.Proofs.YtbolcebmbpepdaaGreatDoor
