/- Contracts. Conditions: those each states. -/
import Derived.Test.YtbolcebmbpepdaaGreatDoorM13
import Derived.Test.YtbolcebmbpepdaaGreatDoorM11
namespace Go.Proofs.YtbolcebmbpepdaaGreatDoor
set_option maxRecDepth 100000
set_option maxHeartbeats 8000000
set_option linter.all false
open Go.RowKit Tryz
def zIr(base:Nat)(v:Value)(L':List Ent)(w:World)(x:Ending)(w':World):Prop:=
 ∃A' c',x= .returned (.slice A' L'.length c')/\w'.ownsRow base 125 5 (.slice A' L'.length c') L'.length (L'.flatMap bD)/\Only (λk=>v.ownBlock=some k) w w'/\(∀k,(Value.slice A' L'.length c').ownBlock=some k->v.ownBlock=some k\/w.heap.size<=k)
theorem zVe{w:World}{g:Nat}{t:TypeId}{cs:List Value}(h:Blk w g t cs.toArray)(size:Nat)(hs:cs.length=size):Reads w w.heap.size size (some ⟨g,0,none⟩) 1 cs:=by
 refine⟨by omega,λ_=>⟨⟨g,0,none⟩,rfl,h.lt,λj u hj=> ?_⟩⟩;have e:(⟨g,0,none⟩:Addr).add j=⟨g,j,none⟩:=by unfold Addr.add;split<;>simp_all
 rw[e,h.cell j];simpa using hj
theorem zWn(base:Nat)(A:Option Addr)(n c g0:Nat)(L:List Ent)(e:Ent)(w:World)(hown:w.ownsRow base 125 5 (.slice A n c) n (L.flatMap bD))(hl:L.length=n)(hn:n<=1000)(h0:Blk w g0 125 (bD e).toArray)(hne:(Value.slice A n c).ownBlock≠some g0)(hB:base<=w.heap.size):Calls prog 137 #[.slice A n c,.int .i64 n,.slice (some ⟨g0,0,none⟩) 1 1] w (zIr base (.slice A n c) (L.take n++e::L.drop n) w):=by
 obtain⟨i0,hi,hz0,hz1,hz2⟩:=zHb;obtain⟨_,hnc,hcm⟩:=fH hown;obtain⟨HOW,HL,HRD⟩:=uJ hown hl (zVe h0 5 rfl);have h63:n+1<=maxLen:=by unfold maxLen;omega
 have hby:(n+1)*40<=140737488355328:=by omega
 have h1:∀u∈bD e,u.oneCell'=true:=by have:=zDi [e];simpa using this
 have H1:=uT h1;have hcm':(c:Int)<=9223372036854775807:=by unfold maxLen at hcm;omega
 clear hown hl h0 hcm h1;by_cases hcn:n=c
 all_goals
  go_enter func137,ntmps137;go_wp2_with(first
   |(at_builtin;(refine fL _ rfl (.tmp 23) (.tmp 24) _ rfl base 125 i0 _ 5 40 underlying103 hi hz0 hz1 hz2 rfl (by omega) (.slice A n c) n _ rfl HOW.s w.heap.size (some ⟨g0,0,none⟩) 1 1 (bD e) rfl HRD.s H1.s h63 hby hB ?_);intro v6 w6 hown6 hg6 hat6))
  obtain⟨A6,c6,rfl,_⟩:=bE hown6;go_ret
  try subst hcn
  have hL:L.take n++e::L.drop n=L++[e]:=by rw[qS (by rw[HL.s];exact qA _),qW (by rw[HL.s];exact qA _)]
  rw[hL];have hlen:(L++[e]).length=n+1:=by rw[qM,HL.s];rfl
  refine⟨A6,c6,by rw[hlen];rfl,by rw[hlen,jN];simpa using hown6,(Only.refl _ _).grown hg6 (λk hk _=>hk),λk hk=> ?_⟩;rw[hlen]at hk;rw[hk]at hat6;rcases hat6 with h|h
  ·exact .inl h.symm
  ·right
   injection h with h;omega
theorem zXh(L:List Ent)(i:Nat)(e:Ent):(L.take i++e::L.drop i).flatMap bD=(L.flatMap bD).take (i*5)++bD e++(L.flatMap bD).drop (i*5):=by rw[zNb cN,zMz cN,jN,jU];simp
theorem ins_rows(cur F E:List Value)(n c i:Nat)(hF:F.length=n*5)(hE:E.length=5)(hcs:cur.length=c*5)(htk:cur.take (n*5)=F)(hin:i<n)(hroom:n+1<=c)(C1 C2:List Value)(h1:C1=cur.take ((i+1)*5)++F.drop (i*5)++cur.drop ((i+1)*5+(F.drop (i*5)).length))(h2:C2=C1.take (i*5)++E++C1.drop (i*5+E.length)):C1.length=c*5/\C2.length=c*5/\C2.take ((n+1)*5)=F.take (i*5)++E++F.drop (i*5):=by
 have hdl:(F.drop (i*5)).length=(n-i)*5:=by rw[List.length_drop,hF];omega
 have htl:(cur.take ((i+1)*5)).length=(i+1)*5:=by rw[qY,hcs];omega
 have hl1:C1.length=c*5:=by rw[h1,qM,qM,htl,hdl,List.length_drop,hcs];omega
 have hl2:C2.length=c*5:=by rw[h2,qM,qM,qY,List.length_drop,hl1,hE];omega
 refine⟨hl1,hl2,?_⟩;have hx:C1.take (i*5)=F.take (i*5):=by rw[h1,jK,uF (by omega),List.take_take,Nat.min_eq_left (by omega),<-htk,List.take_take,Nat.min_eq_left (by omega)]
 have hy:C1.drop (i*5+E.length)=F.drop (i*5)++cur.drop ((i+1)*5+(F.drop (i*5)).length):=by rw[h1,hE,jK,List.drop_append_of_le_length (by omega),qW (by omega),List.nil_append]
 rw[h2,hx,hy,<-jK,uF (by rw[qM,qM,qY,hdl,hE,hF];omega),qS (by rw[qM,qM,qY,hdl,hE,hF];omega)]
theorem yHy(ROW F E:List Value)(n N i:Nat)(hF:F.length=n*5)(hE:E.length=5)(hR:ROW.length=N*5)(htk:ROW.take (i*5)=F.take (i*5))(hin:i<n)(hN:n+1<=N)(C1 C2:List Value)(h1:C1=ROW.take (i*5)++E++ROW.drop (i*5+E.length))(h2:C2=C1.take ((i+1)*5)++F.drop (i*5)++C1.drop ((i+1)*5+(F.drop (i*5)).length)):C1.length=N*5/\C2.length=N*5/\C2.take ((n+1)*5)=F.take (i*5)++E++F.drop (i*5):=by
 have hdl:(F.drop (i*5)).length=(n-i)*5:=by rw[List.length_drop,hF];omega
 have htl:(F.take (i*5)).length=i*5:=by rw[qY,hF];omega
 have hl1:C1.length=N*5:=by rw[h1,qM,qM,qY,List.length_drop,hR,hE];omega
 have hl2:C2.length=N*5:=by rw[h2,qM,qM,hdl,qY,List.length_drop,hl1];omega
 refine⟨hl1,hl2,?_⟩;have hx:C1.take ((i+1)*5)=F.take (i*5)++E:=by rw[h1,htk,uF (by rw[qM,htl,hE];omega),qS (by rw[qM,htl,hE];omega)]
 rw[h2,hx,uF (by rw[qM,qM,htl,hdl,hE];omega),qS (by rw[qM,qM,htl,hdl,hE];omega)]
theorem zWf(w:World):(Go.sizeOf 125).run prog w= .ok 5 w:=by obtain⟨i0,hi,hz0,hz1,hz2⟩:=zHb;simp[Go.sizeOf,typeInfo,hi,hz1]
theorem zTf(base:Nat)(A:Option Addr)(n c g0 i:Nat)(L:List Ent)(e:Ent)(w:World)(hown:w.ownsRow base 125 5 (.slice A n c) n (L.flatMap bD))(hl:L.length=n)(hn:n<=1000)(hin:i<n)(hroom:n+1<=c)(h0:Blk w g0 125 (bD e).toArray)(hne:(Value.slice A n c).ownBlock≠some g0)(hB:base<=w.heap.size):Calls prog 137 #[.slice A n c,.int .i64 i,.slice (some ⟨g0,0,none⟩) 1 1] w (zIr base (.slice A n c) (L.take i++e::L.drop i) w):=by
 obtain⟨i0,hi,hz0,hz1,hz2⟩:=zHb;obtain⟨g,cap,hv,hbg,hgl⟩:=hown.form (by omega);injection hv with e1 e2 e3;subst e1 e3;obtain⟨_,hnc,hcm⟩:=fH hown;have hgn:g≠g0:=λe=>hne (by rw[<-e];rfl)
 obtain⟨cur,hk,hcs,htk⟩:∃cur:List Value,Blk w g 125 cur.toArray/\cur.length=c*5/\cur.take (n*5)=L.flatMap bD:=by
  rcases hown.2 with⟨h1,_⟩|⟨g',cap',cur,h1,_,hh,_,_,hs,ht⟩
  ·simp at h1
  ·injection h1 with h1 _ h2;injection h1 with h1;injection h1 with h1;subst h1 h2;exact⟨cur.toList,by unfold Blk;simpa using hh,by simpa using hs,ht⟩
 have h1:∀u∈bD e,u.oneCell'=true:=by have:=zDi [e];simpa using this
 have h1L:∀u∈(L.flatMap bD).drop (i*5),u.oneCell'=true:=λu hu=>zDi L u (List.mem_of_mem_drop hu)
 have hsa:w.shape? g0=some (125,5):=by unfold Blk at h0;simp[World.shape?,h0,bD]
 have hsb:w.shape? g=some (125,c*5):=by unfold Blk at hk;simp[World.shape?,hk,hcs]
 have hov:∀o lb cb,(callFunc 146 #[.slice (some ⟨g0,0,none⟩) 1 1,.slice (some ⟨g,o,none⟩) lb cb]).run prog w= .ok (.value (.bool false)) w:=λo lb cb=>by
  rw[run_callFunc_extern func146 (by kernel_rfl) (by kernel_rfl) (by kernel_rfl) (e:=Extern.SlicesOverlaps.overlaps #[103,103] #[4]) (by kernel_rfl),
   Lib.run_overlaps_apart w 103 4 125 underlying103 5 zWf ⟨g0,0,none⟩ ⟨g,o,none⟩ 1 1 lb cb (Ne.symm hgn) _ _ _ _ hsa hsb (by omega) (h0.frozen 0) (h0.frozen 5)]
  rfl
 have hfl:(L.flatMap bD).length=n*5:=by rw[zEp cN,hl]
 have hdl:((L.flatMap bD).drop (i*5)).length=(n-i)*5:=by rw[List.length_drop,hfl];omega
 have hcp1:∀ty dc sc,(Builtin.copy_ #[103,103] ty #[.slice (some ⟨g,(i+1)*5,none⟩) (n-i) dc,.slice (some ⟨g,i*5,none⟩) (n+1-i) sc]).run prog w.drew= .ok (goInt ((n-i:Nat):Int)) (w.drew.setRow g (cur.take ((i+1)*5)++(L.flatMap bD).drop (i*5)++cur.drop ((i+1)*5+((L.flatMap bD).drop (i*5)).length)).toArray):=λty dc sc=>
  zFh w.drew _ _ ty 125 i0 5 (n-i) g ((i+1)*5) (n-i) dc ⟨g,i*5,none⟩ (n+1-i) sc cur 125 ((L.flatMap bD).drop (i*5)) underlying103 hi hz1 hk.drew (by simp only[Nat.min_def];split<;>omega) hdl
   (λj v hj=>by
    rw[Addr.add_lit,World.cell?_drew,hk.cell,jH];rw[List.getElem?_drop,<-htk,List.getElem?_take]at hj
    split at hj
    ·exact hj
    ·cases hj) (by rw[hdl];omega) h1L
 obtain⟨C1,hC1⟩:=kB (cur.take ((i+1)*5)++(L.flatMap bD).drop (i*5)++cur.drop ((i+1)*5+((L.flatMap bD).drop (i*5)).length));obtain⟨C2,hC2⟩:=kB (C1.take (i*5)++bD e++C1.drop (i*5+(bD e).length));obtain⟨hl1,hl2,ht2⟩:=ins_rows cur (L.flatMap bD) (bD e) n c i hfl rfl hcs htk hin hroom C1 C2 hC1 hC2;rw[<-hC1]at hcp1;obtain⟨W1,hW1⟩:=kB (w.drew.setRow g C1.toArray);have hk1:Blk W1 g 125 C1.toArray:=by rw[hW1];exact zIf hk.drew _
 have h01:Blk W1 g0 125 (bD e).toArray:=by rw[hW1];exact h0.drew.only (zEz (D:=λk=>k=g) (Only.refl _ _) (λ_=>rfl) _) (Ne.symm hgn)
 have hO1:Only (λk=>k=g) w W1:=by rw[hW1];exact zEz (D:=λk=>k=g) (Only.refl _ w).drew (λ_=>rfl) _
 rw[<-hW1]at hcp1;have hcp2:∀ty dc,(Builtin.copy_ #[103,103] ty #[.slice (some ⟨g,i*5,none⟩) (n+1-i) dc,.slice (some ⟨g0,0,none⟩) 1 1]).run prog W1= .ok (goInt ((1:Nat):Int)) (W1.setRow g C2.toArray):=λty dc=>by
  rw[hC2];exact zFh W1 _ _ ty 125 i0 5 1 g (i*5) (n+1-i) dc ⟨g0,0,none⟩ 1 1 C1 125 (bD e) underlying103 hi hz1 hk1 (by simp only[Nat.min_def];split<;>omega) rfl
   (λj v hj=>by rw[Addr.add_lit,Nat.zero_add,h01.cell,jH];exact hj) (by rw[hl1];simp[bD];omega) h1
 obtain⟨W2,hW2⟩:=kB (W1.setRow g C2.toArray);have hk2:Blk W2 g 125 C2.toArray:=by rw[hW2];exact zIf hk1 _
 have hO2:Only (λk=>k=g) w W2:=by rw[hW2];exact zEz (D:=λk=>k=g) hO1 (λ_=>rfl) _
 rw[<-hW2]at hcp2;have hlen:(L.take i++e::L.drop i).length=n+1:=by rw[qM,jG,qY,List.length_drop,hl];omega
 have hfin:zIr base (.slice (some ⟨g,0,none⟩) n c) (L.take i++e::L.drop i) w (.returned (.slice (some ⟨g,0,none⟩) (n+1) c)) W2:=by refine⟨some ⟨g,0,none⟩,c,by rw[hlen],?_,hO2.mono (λx _ hx=>by rw[hx];rfl),λk hk=> .inl (by simpa[Value.ownBlock]using hk)⟩;rw[hlen,zXh];exact⟨by rw[<-ht2,qY,hl2];omega,.inr ⟨g,c,C2.toArray,rfl,hbg,hk2,hroom,hcm,by simpa using hl2,by simpa using ht2⟩⟩
 have HFIN:=uT hfin;have htn:((i:Int)+1).toNat=i+1:=by omega
 have hnn:((n:Int)+1).toNat=n+1:=by omega
 have hin':(i:Int)<(n:Int):=by omega
 have hb3:(i:Int)<=(n:Int)+1:=by omega
 have hroom':(n:Int)+1<=(c:Int):=by omega
 have hcm':(c:Int)<=9223372036854775807:=by unfold maxLen at hcm;omega
 have hci:¬ c=i:=by omega
 have hci1:¬ c=i+1:=by omega
 have hi0:¬ i=n:=by omega
 have hi1:(i:Int)<=(n:Int):=by omega
 clear hown hl h0 hne hk hcs htk h1 h1L hsa hsb hfl hdl hC1 hC2 hl1 hl2 ht2 hW1 hk1 h01 hO1 hW2 hk2 hO2 hlen hfin hcm hgn hgl hbg hB;go_enter func137,ntmps137;go_wp2_with(simp only[hov]);have hw1:IntKind.i64.wrap ((i:Int)+1)=(i:Int)+1:=by rw[IntKind.wrap_i64];omega
 have hb1:(0:Int)<=(i:Int)+1:=by omega
 have hi2:i<=n:=by omega
 go_region_law (refine step_copy_runI rfl _ _ 103 103 rfl _ _ (by simp[Act.eval,Act.put]) (by simp[Act.eval,Act.put]) (hcp1 _ _ _) ?_)
 go_wp2_with(at_builtin;refine wpList_copy_runI _ rfl _ _ 103 103 rfl _ _ rfl rfl (hcp2 _ _) ?_);go_ret;exact HFIN.s
theorem zTe(base:Nat)(A:Option Addr)(n c g0 i:Nat)(L:List Ent)(e:Ent)(w:World)(hown:w.ownsRow base 125 5 (.slice A n c) n (L.flatMap bD))(hl:L.length=n)(hn:n<=1000)(hin:i<n)(hroom:c<n+1)(h0:Blk w g0 125 (bD e).toArray)(hne:(Value.slice A n c).ownBlock≠some g0)(hB:base<=w.heap.size):Calls prog 137 #[.slice A n c,.int .i64 i,.slice (some ⟨g0,0,none⟩) 1 1] w (zIr base (.slice A n c) (L.take i++e::L.drop i) w):=by
 obtain⟨i0,hi,hz0,hz1,hz2⟩:=zHb;obtain⟨g,cap,hv,hbg,hgl⟩:=hown.form (by omega);injection hv with e1 e2 e3;subst e1 e3;obtain⟨_,hnc,hcm⟩:=fH hown;have hfl:(L.flatMap bD).length=n*5:=by rw[zEp cN,hl]
 have hdl:((L.flatMap bD).drop (i*5)).length=(n-i)*5:=by rw[List.length_drop,hfl];omega
 have hc:=λ(j:Nat) (u:Value) (hj:(L.flatMap bD)[j]? =some u)=>zAr hown j hj
 have h1:∀u∈bD e,u.oneCell'=true:=by have:=zDi [e];simpa using this
 have h1L:∀u∈(L.flatMap bD).drop (i*5),u.oneCell'=true:=λu hu=>zDi L u (List.mem_of_mem_drop hu)
 have hold:(Builtin.firstCells i0.size i (.slice (some ⟨g,0,none⟩) i c)).run prog w.drew= .ok ((L.flatMap bD).take (i*5)).toArray w.drew:=by
  rw[hz1];exact run_firstCells_some w.drew 5 i ⟨g,0,none⟩ i c _ (by rw[qY,hfl];omega) (λj v hj=>by
   rw[Addr.add_lit,Nat.zero_add];rw[List.getElem?_take]at hj
   split at hj
   ·exact hc j v hj
   ·cases hj)
 obtain⟨gN,hgN⟩:=kB w.heap.size;obtain⟨G,hG⟩:=kB (grownCap w (n+1) c 125);obtain⟨zc,hzc⟩:∃zc:Array Value,zc=(Value.agg #[.int .i64 0,.int .i64 0,.int .i64 0,.int .i64 0,.bool false]).cells:=⟨_,rfl⟩;have hzs:zc.size=5:=by rw[hzc];rfl
 obtain⟨ROW,hROW⟩:∃ROW:List Value,ROW.toArray=((L.flatMap bD).take (i*5)).toArray++Builtin.zeroCells zc (n+1-i)++Builtin.zeroCells zc (G-(n+1)):=⟨(((L.flatMap bD).take (i*5)).toArray++Builtin.zeroCells zc (n+1-i)++Builtin.zeroCells zc (G-(n+1))).toList,by simp⟩;obtain⟨W1,hW1⟩:=kB (w.drew.alloc (.cells ROW.toArray 125));have hGn:n+1<=G:=by rw[hG];exact grownCap_ge w _ _ _
 have hG63:G<=maxLen:=by rw[hG];exact grownCap_le_maxLen w (n+1) c 125 (by unfold maxLen;omega)
 have hrz:∀ty,(Builtin.append_ #[103,3] ty #[.slice (some ⟨g,0,none⟩) i c,.int .i64 ((n:Int)+1-(i:Int))]).run prog w= .ok (.slice (some ⟨gN,0,none⟩) (n+1) G) W1:=λty=>by have h:=Lib.run_append_grow_zeros w 103 3 ty 125 i0 _ .i64 .i64 underlying103 underlying3 hi hz0 (some ⟨g,0,none⟩) i c ((L.flatMap bD).take (i*5)) hold (n+1-i) (by omega) (by omega) (by omega) (by omega) (by rw[hz2];omega) (by rw[hz2,show i+(n+1-i)=n+1 by omega];exact growslice_fits hroom (by omega));rw[show i+(n+1-i)=n+1 by omega,<-hG,<-hgN]at h;rw[show(n:Int)+1-(i:Int)=((n+1-i:Nat):Int)by omega,hW1,hROW,hzc];exact h
 have hRl:ROW.length=G*5:=by have h:=congrArg Array.size hROW;simp[Builtin.zeroCells,hzs,hfl]at h;omega
 have hRt:ROW.take (i*5)=(L.flatMap bD).take (i*5):=by
  have h:ROW=((L.flatMap bD).take (i*5)++((Builtin.zeroCells zc (n+1-i)).toList++(Builtin.zeroCells zc (G-(n+1))).toList)):=by have h2:=congrArg Array.toList hROW;simpa using h2
  rw[h,uF (by rw[qY,hfl];omega),List.take_take,Nat.min_self]
 have hk1:Blk W1 gN 125 ROW.toArray:=by rw[hW1,hgN];exact Blk.new w.drew 125 _
 have hb1:uR w W1:=by rw[hW1];exact(qC _ w).drew.alloc (qA _) _
 obtain⟨C1,hC1⟩:=kB (ROW.take (i*5)++bD e++ROW.drop (i*5+(bD e).length));obtain⟨C2,hC2⟩:=kB (C1.take ((i+1)*5)++(L.flatMap bD).drop (i*5)++C1.drop ((i+1)*5+((L.flatMap bD).drop (i*5)).length));obtain⟨hl1,hl2,ht2⟩:=yHy ROW (L.flatMap bD) (bD e) n G i hfl rfl hRl hRt hin hGn C1 C2 hC1 hC2;have h01:=h0.below hb1 h0.lt;obtain⟨W2,hW2⟩:=kB (W1.setRow gN C1.toArray);have hcp1:∀ty dc,(Builtin.copy_ #[103,103] ty #[.slice (some ⟨gN,i*5,none⟩) (n+1-i) dc,.slice (some ⟨g0,0,none⟩) 1 1]).run prog W1= .ok (goInt ((1:Nat):Int)) W2:=λty dc=>by
  rw[hW2,hC1];exact zFh W1 _ _ ty 125 i0 5 1 gN (i*5) (n+1-i) dc ⟨g0,0,none⟩ 1 1 ROW 125 (bD e) underlying103 hi hz1 hk1 (by simp only[Nat.min_def];split<;>omega) rfl
   (λj v hj=>by rw[Addr.add_lit,Nat.zero_add,h01.cell,jH];exact hj) (by rw[hRl];simp[bD];omega) h1
 have hk2:Blk W2 gN 125 C1.toArray:=by rw[hW2];exact zIf hk1 _
 have hO2:Only (λ_=>False) w W2:=by rw[hW2];exact zEz (D:=λ_=>False) (Only.of_below hb1 λx h1 h2=>by omega) (λh=>by omega) _
 obtain⟨W3,hW3⟩:=kB (W2.drew.setRow gN C2.toArray);have hcp2:∀ty dc sc,(Builtin.copy_ #[103,103] ty #[.slice (some ⟨gN,(i+1)*5,none⟩) (n-i) dc,.slice (some ⟨g,i*5,none⟩) (n-i) sc]).run prog W2.drew= .ok (goInt ((n-i:Nat):Int)) W3:=λty dc sc=>by
  rw[hW3,hC2];exact zFh W2.drew _ _ ty 125 i0 5 (n-i) gN ((i+1)*5) (n-i) dc ⟨g,i*5,none⟩ (n-i) sc C1 125 ((L.flatMap bD).drop (i*5)) underlying103 hi hz1 hk2.drew (by simp only[Nat.min_def];split<;>omega) hdl
   (λj v hj=>by rw[Addr.add_lit,World.cell?_drew,World.cell?_of_block (hO2.block g hgl λe=>e)];rw[List.getElem?_drop]at hj;exact hc _ v hj) (by rw[hdl,hl1];omega) h1L
 have hk3:Blk W3 gN 125 C2.toArray:=by rw[hW3];exact zIf hk2.drew _
 have hO3:Only (λ_=>False) w W3:=by rw[hW3];exact zEz (D:=λ_=>False) hO2.drew (λh=>by omega) _
 have hlen:(L.take i++e::L.drop i).length=n+1:=by rw[qM,jG,qY,List.length_drop,hl];omega
 have hfin:zIr base (.slice (some ⟨g,0,none⟩) n c) (L.take i++e::L.drop i) w (.returned (.slice (some ⟨gN,0,none⟩) (n+1) G)) W3:=by
  refine⟨some ⟨gN,0,none⟩,G,by rw[hlen],?_,hO3.mono (λx _ hx=>hx.elim),λk hk=> .inr ?_⟩
  rotate_left
  ·have:gN=k:=by simpa[Value.ownBlock]using hk
   omega
  rw[hlen,zXh];exact⟨by rw[<-ht2,qY,hl2];omega,.inr ⟨gN,G,C2.toArray,rfl,by omega,hk3,hGn,hG63,by simpa using hl2,by simpa using ht2⟩⟩
 have HFIN:=uT hfin;have htn:((i:Int)+1).toNat=i+1:=by omega
 have hin':(i:Int)<(n:Int):=by omega
 have hroom':(c:Int)<(n:Int)+1:=by omega
 have hcm':(c:Int)<=9223372036854775807:=by unfold maxLen at hcm;omega
 have hG':(G:Int)<=9223372036854775807:=by unfold maxLen at hG63;omega
 have hci:¬ c=i:=by omega
 have hGi:¬ G=i:=by omega
 have hGi1:¬ G=i+1:=by omega
 have hi0:¬ i=n:=by omega
 have hi1:(i:Int)<=(n:Int):=by omega
 have hw1:IntKind.i64.wrap ((i:Int)+1)=(i:Int)+1:=by rw[IntKind.wrap_i64];omega
 have hbb1:(0:Int)<=(i:Int)+1:=by omega
 have hi2:i<=n:=by omega
 clear hown hl h0 hne hc hold hgN hG hzc hzs hROW hW1 hRl hRt hk1 hb1 hC1 hC2 hl1 hl2 ht2 h01 hW2 hk2 hO2 hW3 hk3 hO3 hlen hfin h1 h1L hfl hdl hcm hG63 hgl hbg hB;go_enter func137,ntmps137;go_wp2_with(first
  |(at_builtin;refine Lib.wpList_append_run _ rfl _ _ _ _ rfl _ _ rfl rfl _ _ (hrz _) ?_)
  |(at_builtin;refine wpList_copy_runI _ rfl _ _ 103 103 rfl _ _ rfl rfl (hcp1 _ _) ?_))
 go_region_law (refine step_copy_runI rfl _ _ 103 103 rfl _ _ (by simp[Act.eval,Act.put]) (by simp[Act.eval,Act.put]) (hcp2 _ _ _) ?_)
 go_wp2_with fail;go_ret;exact HFIN.s
theorem zWc(base:Nat)(A:Option Addr)(n c g0 i:Nat)(L:List Ent)(e:Ent)(w:World)(hown:w.ownsRow base 125 5 (.slice A n c) n (L.flatMap bD))(hl:L.length=n)(hn:n<=1000)(hin:i<=n)(h0:Blk w g0 125 (bD e).toArray)(hne:(Value.slice A n c).ownBlock≠some g0)(hB:base<=w.heap.size):Calls prog 137 #[.slice A n c,.int .i64 i,.slice (some ⟨g0,0,none⟩) 1 1] w (zIr base (.slice A n c) (L.take i++e::L.drop i) w):=by
 rcases Nat.lt_or_ge i n with h|h
 ·rcases Nat.lt_or_ge c (n+1)with hc|hc
  ·exact zTe base A n c g0 i L e w hown hl hn h hc h0 hne hB
  ·exact zTf base A n c g0 i L e w hown hl hn h hc h0 hne hB
 ·obtain rfl:i=n:=by omega
  exact zWn base A i c g0 L e w hown hl hn h0 hne hB
theorem zUu(L:List Ent)(p:Nat)(x e:Ent)(hx:L[p]? =some x):(((((L.flatMap bD).set (p*5) (.int .i64 e.key)).set (p*5+1) (.int .i64 e.value)).set (p*5+2) (.int .i64 e.time)).set (p*5+3) (.int .i64 e.who)).set (p*5+4) (.bool e.gone)=(L.set p e).flatMap bD:=by have hpn:=(qK.1 hx).1;obtain⟨ek,ev,et,ew,eg⟩:=e;obtain⟨xk,xv,xt,xw,xg⟩:=x;dsimp only;have f0:=zEh cN L p 0 _ ⟨ek,xv,xt,xw,xg⟩ (.int .i64 ek) hx (by omega) rfl;have f1:=zEh cN (L.set p ⟨ek,xv,xt,xw,xg⟩) p 1 ⟨ek,xv,xt,xw,xg⟩ ⟨ek,ev,xt,xw,xg⟩ (.int .i64 ev) (jM hpn) (by omega) rfl;have f2:=zEh cN (L.set p ⟨ek,ev,xt,xw,xg⟩) p 2 ⟨ek,ev,xt,xw,xg⟩ ⟨ek,ev,et,xw,xg⟩ (.int .i64 et) (jM hpn) (by omega) rfl;have f3:=zEh cN (L.set p ⟨ek,ev,et,xw,xg⟩) p 3 ⟨ek,ev,et,xw,xg⟩ ⟨ek,ev,et,ew,xg⟩ (.int .i64 ew) (jM hpn) (by omega) rfl;have f4:=zEh cN (L.set p ⟨ek,ev,et,ew,xg⟩) p 4 ⟨ek,ev,et,ew,xg⟩ ⟨ek,ev,et,ew,eg⟩ (.bool eg) (jM hpn) (by omega) rfl;rw[List.set_set]at f1 f2 f3 f4;rw[Nat.add_zero]at f0;rw[f0,f1,f2,f3,f4]
theorem yEg{W:World}{base g n c:Nat}{cur:Array Value}{xs:List Value}(hk:Blk W g 125 cur)(hb:base<=g)(hnc:n<=c)(hcm:c<=maxLen)(hs:cur.size=c*5)(ht:cur.toList.take (n*5)=xs)(hx:xs.length=n*5):W.ownsRow base 125 5 (.slice (some ⟨g,0,none⟩) n c) n xs:=
 ⟨hx,.inr ⟨g,c,cur,rfl,hb,hk,hnc,hcm,hs,ht⟩⟩
theorem yCm{w:World}{base g n c:Nat}{xs:List Value}(h:w.ownsRow base 125 5 (.slice (some ⟨g,0,none⟩) n c) n xs):∃cur,Blk w g 125 cur/\base<=g/\n<=c/\c<=maxLen/\cur.size=c*5/\cur.toList.take (n*5)=xs:=by
 rcases h.2 with⟨h1,_⟩|⟨g',cap',cur,h1,hb,hh,hnc,hcm,hs,ht⟩
 ·simp at h1
 injection h1 with h1 _ h2;injection h1 with h1;injection h1 with h1;subst h1 h2;exact⟨cur,hh,hb,hnc,hcm,hs,ht⟩
def zXm(w:World)(g p:Nat)(e:Ent):World:=((((w.setCell ⟨g,p*5,none⟩ (.int .i64 e.key)).setCell ⟨g,p*5+1,none⟩ (.int .i64 e.value)).setCell ⟨g,p*5+2,none⟩ (.int .i64 e.time)).setCell ⟨g,p*5+3,none⟩ (.int .i64 e.who)).setCell ⟨g,p*5+4,none⟩ (.bool e.gone)
theorem own_put5{w:World}{base g n c p:Nat}{L:List Ent}{x:Ent}(h:w.ownsRow base 125 5 (.slice (some ⟨g,0,none⟩) n c) n (L.flatMap bD))(hl:L.length=n)(hx:L[p]? =some x)(e:Ent):(zXm w g p e).ownsRow base 125 5 (.slice (some ⟨g,0,none⟩) n c) n ((L.set p e).flatMap bD):=by obtain⟨cur,hk,hb,hnc,hcm,hs,ht⟩:=yCm h;have hk5:Blk (zXm w g p e) g 125 _:=((((hk.set_ (p*5) (.int .i64 e.key)).set_ (p*5+1) (.int .i64 e.value)).set_ (p*5+2) (.int .i64 e.time)).set_ (p*5+3) (.int .i64 e.who)).set_ (p*5+4) (.bool e.gone);have hF:=zUu L p x e hx;refine yEg hk5 hb hnc hcm (by simpa using hs) ?_ (by rw[zEp cN,List.length_set,hl]);simp only[Array.toList_setIfInBounds,List.take_set];rw[ht,hF]
end Go.Proofs.YtbolcebmbpepdaaGreatDoor
