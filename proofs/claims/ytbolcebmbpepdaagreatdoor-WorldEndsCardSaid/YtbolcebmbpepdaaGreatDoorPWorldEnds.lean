/- The card of a law. Conditions: none beyond what each theorem states. -/
import Derived.Test.YtbolcebmbpepdaaGreatDoorRows
import Derived.Test.YtbolcebmbpepdaaGreatDoorCards
import Derived.Test.YtbolcebmbpepdaaGreatDoorTie
import Derived.LaidMore
import Derived.Lib.LaidTab
import Derived.Stop.LaidErr
import Derived.SevenTiedAt
import Derived.Test.YtbolcebmbpepdaaGreatDoorM29
namespace Go.Proofs.YtbolcebmbpepdaaGreatDoor.worldEnds
set_option maxRecDepth 100000
set_option maxHeartbeats 8000000
set_option linter.all false
open Go.ChangeShapes Go.WideShapes Go.ChangeAt Go.RowKit Go.Deep
theorem own:ownKnob Tryz.prog.godebug=none:=by kernel_rfl
theorem laidOut:laidOutB Tryz.prog=true:=by kernel_rfl
theorem gTab:Tryz.prog.globalNamed "splittally/world.orders" =some 0:=by kernel_rfl
theorem tTab:(Tryz.prog.globals[0]?).map (·.type)=some 176:=by kernel_rfl
theorem cInt:Tryz.prog.cellsOf 3=1:=by kernel_rfl
theorem cTab:Tryz.prog.cellsOf 176=5:=by kernel_rfl
theorem door_met(os:Os)(args:Array Value):laidMetH Tryz.prog Rows.worldEndsRow.laid ((World.doorLaid Tryz.prog 88 os).forCall (λ_ _=>0) ⟨#[],args,[]⟩).memory:=
 laidMetH_of_parts3 (fuel:=8) (laidMet_of_run' 8 (by kernel_rfl) (by kernel_rfl)) (by kernel_rfl) (by kernel_rfl)
theorem of_laid{W:World}(h:laidMetH Tryz.prog Rows.worldEndsRow.laid W):OrdT W/\0<W.heap.size:=by
 rw[MakeChecks.laidMetH_plain _ _ _ (by kernel_rfl)]at h;have h2:laidMet Tryz.prog [("splittally/world.orders",Lib.tabData .i64 ([2,3,4,5,6]:List Int))] W:=h;have hT:=Lib.tabIs_of_head gTab tTab Tryz.underlying176 Tryz.underlying3 cInt cTab h2;have key:OrdT W:=λk hk=>by
  have hc:=hT.cell gTab k hk;rw[hc];obtain h|h|h|h|h:k=0\/k=1\/k=2\/k=3\/k=4:=by omega
  all_goals subst h;rfl
 refine⟨key,?_⟩;have hc:=key 0 (by omega);refine Nat.not_le.1 λhn=> ?_
 have:W.heap[0]? =none:=Array.getElem?_eq_none hn;unfold World.cell? at hc;simp[this]at hc
theorem yDb{H:Type}{enc:TypeId×Value->H}{w:World}{base:Nat}{spare:Nat->Bool}{held:Bool}{fuel:Nat}{A:Option Addr}{len cap:Nat}{x:DataW H×List MemPlace}(h:DataW.trod enc Tryz.prog w base spare held fuel 25 [.slice A len cap]=some x):len<=cap/\cap<=maxLen/\SliceD x.1 len/\∃l:List StpI,l.length=len/\Reads w w.heap.size 8 A len (l.flatMap StpI.cells)/\∀a∈l,zLr a:=by
 refine yDu StpI.cells zLr Tryz.underlying25 (size:=8) (by kernel_rfl) (by omega) (λn cs y hy=> ?_) h;obtain⟨hl,ys,_,_,m,hf⟩:=zNv Tryz.underlying48 (by kernel_rfl) (by kernel_rfl) hy;obtain⟨v0,y0,c0,_,t0⟩:=hf 0 _ rfl;obtain⟨v1,y1,c1,_,t1⟩:=hf 1 _ rfl;obtain⟨v2,y2,c2,_,t2⟩:=hf 2 _ rfl;obtain⟨v3,y3,c3,_,t3⟩:=hf 3 _ rfl;obtain⟨v4,y4,c4,_,t4⟩:=hf 4 _ rfl;obtain⟨v5,y5,c5,_,t5⟩:=hf 5 _ rfl;obtain⟨v6,y6,c6,_,t6⟩:=hf 6 _ rfl;obtain⟨v7,y7,c7,_,t7⟩:=hf 7 _ rfl;obtain⟨z0,e0,_,w0⟩:=DataW.trod_int Tryz.underlying3 t0;obtain⟨z1,e1,_,w1⟩:=DataW.trod_int Tryz.underlying3 t1;obtain⟨z2,e2,_,w2⟩:=DataW.trod_int Tryz.underlying3 t2;obtain⟨z3,e3,_,w3⟩:=DataW.trod_int Tryz.underlying3 t3;obtain⟨z4,e4,_,w4⟩:=DataW.trod_int Tryz.underlying3 t4;obtain⟨z5,e5,_,w5⟩:=DataW.trod_int Tryz.underlying3 t5;obtain⟨z6,e6,_,w6⟩:=DataW.trod_int Tryz.underlying3 t6;obtain⟨z7,e7,_,w7⟩:=DataW.trod_int Tryz.underlying3 t7;simp at e0 e1 e2 e3 e4 e5 e6 e7;subst e0 e1 e2 e3 e4 e5 e6 e7;refine⟨hl,⟨z0,z1,z2,z3,z4,z5,z6,z7⟩,?_,w5⟩
 match cs,hl with
 |[a0,a1,a2,a3,a4,a5,a6,a7],_=>
  simp at c0 c1 c2 c3 c4 c5 c6 c7;simp[StpI.cells,c0,c1,c2,c3,c4,c5,c6,c7]
theorem lifted(os:Os)(started:os.Started)(H:Type)(enc:TypeId×Value->H):ReturnsInHanded {} Tryz.checked os 4 .any (λw args=>(Rows.worldEndsSpec.pre enc Tryz.prog Tryz.f4 [] false w args/\laidMetH Tryz.prog Rows.worldEndsRow.laid w)/\sizedMet enc Tryz.prog Tryz.f4 (OpenSpec.ofChange Rows.worldEndsSpec) false w args) (Rows.worldEndsSpec.post enc Tryz.prog Tryz.f4 false true false false):=by
 refine returnsInHanded_of_change_and (C:=Tryz.checked) (X:=λw _=>laidMetH Tryz.prog Rows.worldEndsRow.laid w) (λ_ _ _ hh h=>h.of_heap hh) own started (by kernel_rfl) Tryz.func4
  (ChangeSpec.witness_shaped (enc:=enc) (C:=Tryz.checked) (os:=os) (X:=λw _=>laidMetH Tryz.prog Rows.worldEndsRow.laid w) false (World.doorLaid Tryz.prog 88 os) #[.agg #[.int .i64 0,.slice none 0 0,.int .i64 0,.slice none 0 0,.int .i64 0],.slice none 0 0] 8 rfl (World.shaped_of_RefB (by kernel_rfl) (by kernel_rfl)) (by kernel_rfl) (by kernel_rfl) (by kernel_rfl) (door_met os _)) ?_
 intro W base args ds gs before hval0 hW _ _ hL _;have hval:∀(j:Nat) t v,Tryz.f4.params[j]? =some t->args[j]? =some v->Value.okWide Tryz.prog W .any base t v:=hval0;have hW':=hW;obtain⟨p,q,hA0,hV,rfl,hfz,hnd⟩:=hW;have hA:DataW.TrodAll enc Tryz.prog W 0 (λ_=>true) true Tryz.f4.params.toList args.toList ds p:=hA0;rw[Tryz.params4]at hA hval;obtain⟨v0,vs0,d0,ds0,p0,q0,hargs,rfl,rfl,h0,r0x⟩:=trodAll_cons hA;obtain⟨v1,vs1,d1,ds1,p1,q1,rfl,rfl,rfl,h1,r1x⟩:=trodAll_cons r0x;obtain⟨rfl,rfl,rfl⟩:=trodAll_nil r1x;obtain rfl:args=#[v0,v1]:=by cases args;simp_all
 obtain⟨rfl,rfl⟩:=trodVars_none hV;have k0:=h0;have lt0:∀x∈p0,x.block<W.heap.size:=by obtain⟨m,hm⟩:=k0;exact DataW.trod_lt m _ _ _ hm
 have k1:=h1;have lt1:∀x∈p1,x.block<W.heap.size:=by obtain⟨m,hm⟩:=k1;exact DataW.trod_lt m _ _ _ hm
 obtain⟨e0,rfl,w0⟩:=yBm (hval 0 24 v0 rfl rfl) h0;obtain⟨A1,n1,c1,rfl⟩:=okWide_slice Tryz.underlying25 (hval 1 25 v1 rfl rfl);obtain⟨fuel1,hf1⟩:=h1;obtain⟨l1,mx1,sd1,z1,e1,r1,w1⟩:=yDb (by simpa[Value.cells]using hf1);clear hA0 hval0;obtain⟨hT,hg⟩:=of_laid hL;refine(zWb e0 A1 n1 c1 z1 W w0 e1 (qN l1 mx1) r1 w1 hT hg).mono λe W' ⟨he,bel⟩=> ?_
 subst he;exact⟨_,rfl,_,_,_,[],_,[],hW',trodAll_mk1 (shut_bool Tryz.underlying4 _),(trodAll_cons_mk (Below.trod laidOut (by kernel_rfl) (of_decide_eq_true (by kernel_rfl)) k0 bel lt0) (trodAll_cons_mk (Below.trod laidOut (by kernel_rfl) (of_decide_eq_true (by kernel_rfl)) k1 bel lt1) trodAll_mk0)),rfl,bel.frame _,λh=>by cases h⟩
theorem over:Rows.worldEndsRow.holds Tryz.pinned (OpenSpec.ofChange Rows.worldEndsSpec):=
 OpenClaim.holds_of_wide 4 Tryz.f4 rfl rfl rfl rfl rfl rfl rfl ⟨rfl,rfl,rfl,rfl,rfl⟩ rfl rfl rfl rfl rfl (by kernel_rfl) Tryz.func4 (by kernel_rfl)
  (of_decide_eq_true (by kernel_rfl)) (by unfold Func.isWrapper;first|(rw[if_pos (by decide+kernel)];kernel_rfl)|(rw[if_neg (by decide+kernel)];exact⟨rfl,rfl⟩))
  (λos started H enc _=>lifted os started H enc)
theorem proved:Rows.WorldEndsCardSaid:=
 Claim7.holds_tied_plain_at .later [] [.data] true (true, "befab7067fda945a984b499ae9c5b93e767ee9a7dc07b64aa94b40456139afd9") false
  over (λ_ h=>by cases h) (by kernel_rfl) (λ_ h=>by cases h) worldEnds_row_tie rfl ⟨rfl,rfl⟩ (by kernel_rfl) rfl
  (λf fn hf hfn=>by
   obtain rfl:f=4:=Option.some.inj ((show Tryz.prog.funcNamed "splittally/splittallylaw.WorldEnds" =some 4 by kernel_rfl).symm.trans hf)|>.symm
   obtain rfl:fn=Tryz.f4:=(Option.some.inj (Tryz.func4.symm.trans hfn)).symm;exact⟨by kernel_rfl,λj t ht=>by
    rw[Tryz.params4]at ht;have hm:t∈([24,25]:List TypeId):=by
     have h:=Array.mem_of_getElem? ht;simpa using h
    have hall:(([24,25]:List TypeId).all λu=> !Tryz.prog.wantsStandIn u)=true:=by kernel_rfl
    exact(show Tryz.prog.wantsStandIn t=false by simpa using uE.1 hall t hm)⟩)
  (by kernel_rfl)
end Go.Proofs.YtbolcebmbpepdaaGreatDoor.worldEnds
