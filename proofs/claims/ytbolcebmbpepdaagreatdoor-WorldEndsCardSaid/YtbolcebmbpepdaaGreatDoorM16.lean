/- Contracts. Conditions: those each states. -/
import Derived.Test.YtbolcebmbpepdaaGreatDoorM13
import Derived.Test.YtbolcebmbpepdaaGreatDoorM09
import Derived.Test.YtbolcebmbpepdaaGreatDoorM07
namespace Go.Proofs.YtbolcebmbpepdaaGreatDoor
set_option maxRecDepth 100000
set_option maxHeartbeats 8000000
set_option linter.all false
open Go.RowKit Tryz
def EntsPost(r:List Ent×Int)(e:Ending)(w w':World):Prop:=
 ∃v:Value,e= .returned (.tuple #[v,.int .i64 r.2])/\w'.ownsRow w.heap.size 125 5 v r.1.length (r.1.flatMap bD)/\uR w w'
section
open Go.RowKit Go.ChangeShapes Go.WideShapes Go.Deep
structure Envl where
 id:Int
 fr:Int
 to_:Int
 size:Int
def Envl.cells(e:Envl):List Value:=[.int .i64 e.id,.int .i64 e.fr,.int .i64 e.to_,.int .i64 e.size]
theorem Envl.cells_len(e:Envl):e.cells.length=4:=rfl
structure zCl where
 code:Int
 who:Int
 stock:Stk
 value:Int
 sent:List Envl
 frame:List Int
 report:List Int
structure Tol where
 d:zCl
 sA:Option Addr
 sn:Nat
 sc:Nat
 fA:Option Addr
 fn:Nat
 fc:Nat
 rA:Option Addr
 rn:Nat
 rc:Nat
def Tol.cells(t:Tol):List Value:=[.int .i64 t.d.code,.int .i64 t.d.who,.int .i64 t.d.stock.code,.int .i64 t.d.stock.id,.int .i64 t.d.stock.free,.int .i64 t.d.stock.held,.int .i64 t.d.stock.used,.int .i64 t.d.value,.slice t.sA t.sn t.sc,.slice t.fA t.fn t.fc,.slice t.rA t.rn t.rc]
def Tol.val(t:Tol):Value:= .agg #[.int .i64 t.d.code,.int .i64 t.d.who,.int .i64 t.d.stock.code,.int .i64 t.d.stock.id,.int .i64 t.d.stock.free,.int .i64 t.d.stock.held,.int .i64 t.d.stock.used,.int .i64 t.d.value,.slice t.sA t.sn t.sc,.slice t.fA t.fn t.fc,.slice t.rA t.rn t.rc]
structure Tol.ok(t:Tol)(w:World)(B:Nat):Prop where
 sl:t.d.sent.length=t.sn
 sc:t.sn<=t.sc
 sm:t.sc<=maxLen
 sr:Reads w B 4 t.sA t.sn (t.d.sent.flatMap Envl.cells)
 fl:t.d.frame.length=t.fn
 fc:t.fn<=t.fc
 fm:t.fc<=maxLen
 fr:Reads w B 1 t.fA t.fn (t.d.frame.map (.int .u8))
 rl:t.d.report.length=t.rn
 rc:t.rn<=t.rc
 rm:t.rc<=maxLen
 rr:Reads w B 1 t.rA t.rn (t.d.report.map (.int .i64))
end
structure TolOwn(t:Tol)(w:World)(base:Nat):Prop where
 so:w.ownsRow base 111 4 (.slice t.sA t.sn t.sc) t.sn (t.d.sent.flatMap Envl.cells)
 fo:w.ownsRow base 5 1 (.slice t.fA t.fn t.fc) t.fn (t.d.frame.map (.int .u8))
 ro:w.ownsRow base 3 1 (.slice t.rA t.rn t.rc) t.rn (t.d.report.map (.int .i64))
section
variable {t:Tol}{w w':World}{base base':Nat}
theorem TolOwn.below(h:TolOwn t w base)(hb:uR w w'):TolOwn t w' base:=⟨bI h.so hb,bI h.fo hb,bI h.ro hb⟩
theorem TolOwn.mono(h:TolOwn t w base)(hb:base'<=base):TolOwn t w base':=⟨dU h.so hb,dU h.fo hb,dU h.ro hb⟩
theorem TolOwn.grown{size n:Nat}{v:Value}{xs:List Value}(h:TolOwn t w base)(hown:w.ownsRow base' 57 size v n xs)(hg:w.grownBy w' v.ownBlock):TolOwn t w' base:=
 ⟨jS h.so hg (dV h.so hown (by decide)),jS h.fo hg (dV h.fo hown (by decide)),jS h.ro hg (dV h.ro hown (by decide))⟩
theorem TolOwn.ok(h:TolOwn t w base):t.ok w w.heap.size where
 sl:=by have:=h.so.1;rw[zEp Envl.cells_len]at this;omega
 sc:=(fH h.so).2.1
 sm:=(fH h.so).2.2
 sr:=Reads.of_own h.so
 fl:=by have:=h.fo.1;simpa using this
 fc:=(fH h.fo).2.1
 fm:=(fH h.fo).2.2
 fr:=Reads.of_own h.fo
 rl:=by have:=h.ro.1;simpa using this
 rc:=(fH h.ro).2.1
 rm:=(fH h.ro).2.2
 rr:=Reads.of_own h.ro
end
def OutT(w:World)(base:Nat)(v:Value)(l:List Tol):Prop:=w.ownsRow base 57 11 v l.length (l.flatMap Tol.cells)/\∀t∈l,TolOwn t w base
section
variable {w w':World}{base:Nat}{v v':Value}{l:List Tol}{t:Tol}
theorem OutT.nil(w:World)(base:Nat):OutT w base (.slice none 0 0) []:=⟨qH _ _ _ _,λ_ h=>by cases h⟩
theorem OutT.below(h:OutT w base v l)(hb:uR w w'):OutT w' base v l:=⟨bI h.1 hb,λt ht=>(h.2 t ht).below hb⟩
theorem OutT.push(h:OutT w base v l)(ht:TolOwn t w base)(hg:w.grownBy w' v.ownBlock)(hown:w'.ownsRow base 57 11 v' (l.length+1) (l.flatMap Tol.cells++t.cells)):OutT w' base v' (l++[t]):=by
 refine⟨?_,λx hx=> ?_⟩
 ·rw[qM,jN];simpa using hown
 ·rcases jI.1 hx with h1|h1
  ·exact(h.2 x h1).grown h.1 hg
  ·rw[jJ]at h1;subst h1;exact ht.grown h.1 hg
end
theorem yHe:(prog.info? 57).map (λi=>(i.zero,i.size,i.bytes))=some (some (.agg #[.int .i64 0,.int .i64 0,.int .i64 0,.int .i64 0,.int .i64 0,.int .i64 0,.int .i64 0,.int .i64 0,.slice none 0 0,.slice none 0 0,.slice none 0 0]),11,136):=by kernel_rfl
theorem yHr:∃i,prog.info? 57=some i/\i.zero=some (.agg #[.int .i64 0,.int .i64 0,.int .i64 0,.int .i64 0,.int .i64 0,.int .i64 0,.int .i64 0,.int .i64 0,.slice none 0 0,.slice none 0 0,.slice none 0 0])/\i.size=11/\i.bytes=136:=by
 have h:=yHe;cases hi:prog.info? 57 with
 |none=>rw[hi]at h;simp at h
 |some i=>rw[hi]at h;simp at h;exact⟨i,rfl,h.1,h.2.1,h.2.2⟩
theorem zRi(A A':Option Addr)(n c c':Nat)(l:List Ent)(B:Nat)(w:World)(hl:l.length=n)(hm:n<=9223372036854775807)(hr:Reads w B 5 A n (l.flatMap bD))(hr':Reads w B 5 A' n (l.flatMap bD)):Calls prog 30 #[.slice A n c,.slice A' n c'] w λe w'=>e= .returned (.bool true)/\∃nq,w.drewN nq=w':=by
 obtain⟨HR,HR'⟩:=uI hr hr';clear hr hr';have HL:=uT hl;clear hl;go_enter func30,ntmps30;go_wp2_with fail
 go_loopw [5] (λi wr=>∃k nq:Nat,k<=n/\i= .int .i64 k/\wr=w.drewN nq) (λi _=>n-(intOf i).toNat)
 case atStart=>exact⟨0,0,qL _,rfl,rfl⟩
 case round=>
  obtain⟨k,nq,hk,rfl,rfl⟩:=hrel;by_cases hlt:k<n
  ·obtain⟨b,o,e,rfl,hbl,he,hc⟩:=fB cN (by omega) HR.s hlt HL.s;obtain⟨b',o',e',rfl,hbl',he',hc'⟩:=fB cN (by omega) HR'.s hlt HL.s;obtain rfl:e=e':=by rw[he]at he';injection he'
   have c0:w.cell? ⟨b,o+k*5,none⟩=some (.int .i64 e.key):=hc 0 _ rfl;have c1:w.cell? ⟨b,o+k*5+1,none⟩=some (.int .i64 e.value):=hc 1 _ rfl;have c2:w.cell? ⟨b,o+k*5+2,none⟩=some (.int .i64 e.time):=hc 2 _ rfl;have c3:w.cell? ⟨b,o+k*5+3,none⟩=some (.int .i64 e.who):=hc 3 _ rfl;have c4:w.cell? ⟨b,o+k*5+4,none⟩=some (.bool e.gone):=hc 4 _ rfl;have d0:w.cell? ⟨b',o'+k*5,none⟩=some (.int .i64 e.key):=hc' 0 _ rfl;have d1:w.cell? ⟨b',o'+k*5+1,none⟩=some (.int .i64 e.value):=hc' 1 _ rfl;have d2:w.cell? ⟨b',o'+k*5+2,none⟩=some (.int .i64 e.time):=hc' 2 _ rfl;have d3:w.cell? ⟨b',o'+k*5+3,none⟩=some (.int .i64 e.who):=hc' 3 _ rfl;have d4:w.cell? ⟨b',o'+k*5+4,none⟩=some (.bool e.gone):=hc' 4 _ rfl;have hkn:(k:Int)<(n:Int):=by omega
   clear he he' hbl hbl' hc hc';go_wp2_with fail;go_quiet (fail);go_wp2_with fail;go_roundw
   case rel=>exact⟨k+1,_,by omega,by go_num,rfl⟩
   case measure=>simp[intOf];omega
  ·obtain rfl:k=n:=by omega
   go_wp2_with fail;go_ret;exact⟨rfl,nq,rfl⟩
end Go.Proofs.YtbolcebmbpepdaaGreatDoor
