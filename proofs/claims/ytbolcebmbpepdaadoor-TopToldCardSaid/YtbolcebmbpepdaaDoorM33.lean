/- Contracts and plain facts, set together by program out of smaller texts. Conditions: none beyond what each theorem states. -/
import Derived.Test.YtbolcebmbpepdaaDoorM01
import Derived.Test.YtbolcebmbpepdaaDoorM04
import Derived.Test.YtbolcebmbpepdaaDoorM32
import Derived.Test.YtbolcebmbpepdaaDoorM09
import Derived.Test.YtbolcebmbpepdaaDoorM23
import Derived.Test.YtbolcebmbpepdaaDoorM24
import Derived.Test.YtbolcebmbpepdaaDoorM19
import Derived.Test.YtbolcebmbpepdaaDoorM22
import Derived.Test.YtbolcebmbpepdaaDoorM30
import Derived.Test.YtbolcebmbpepdaaDoorM12
namespace Go.Proofs.YtbolcebmbpepdaaDoor
set_option linter.unusedVariables false
section
open Go.RowKit
/-- what all of it holds -/
structure WS where
  sh : Nat → Nat → Shf
  ask : Nat → List Int
  gn : Nat → List Int
  st : Nat → List (List Ent)
  bk : Nat → BkS
  lts : List PoD
  top : Int → Int → Int
  lost : Int → Bool
/-- a step -/
structure StpI where
  kind : Int
  who : Int
  item : Int
  count : Int
  life : Int
  id : Int
  label : Int
  key : Int
def StpI.cells (s : StpI) : List Value := [.int .i64 s.kind, .int .i64 s.who, .int .i64 s.item, .int .i64 s.count, .int .i64 s.life, .int .i64 s.id, .int .i64 s.label, .int .i64 s.key]
theorem StpI.cells_len (s : StpI) : s.cells.length = 8 := rfl
def StpI.val (s : StpI) : Value := .agg #[.int .i64 s.kind, .int .i64 s.who, .int .i64 s.item, .int .i64 s.count, .int .i64 s.life, .int .i64 s.id, .int .i64 s.label, .int .i64 s.key]
def upd1 {α : Type} (f : Nat → α) (i : Nat) (x : α) : Nat → α := fun j => if j = i then x else f j
theorem upd1_if {α : Type} (f : Nat → α) (i : Nat) (x : α) (j : Nat) : upd1 f i x j = if j = i then x else f j := rfl
theorem upd1_at {α : Type} (f : Nat → α) (i : Nat) (x : α) : upd1 f i x i = x := by simp [upd1]
theorem upd1_ne {α : Type} (f : Nat → α) {i j : Nat} (x : α) (h : j ≠ i) : upd1 f i x j = f j := by simp [upd1, h]
theorem upd1_same {α : Type} (f : Nat → α) (i : Nat) : upd1 f i (f i) = f := by funext j; unfold upd1; split <;> simp_all
theorem upd1_upd1 {α : Type} (f : Nat → α) (i : Nat) (x y : α) : upd1 (upd1 f i x) i y = upd1 f i y := by funext j; unfold upd1; split <;> rfl
def Cfg.n (c : Cfg) : Nat := c.br.toNat
def Cfg.m (c : Cfg) : Nat := c.mi.zs.length
def Cfg.ln (c : Cfg) : Nat := c.la.zs.length
def told0 (code who : Int) : TolD := ⟨code, who, Stk.none, 0, [], [], []⟩
def envs : Nat → List PoD → List Envl
  | _, [] => []
  | k, p :: l => ⟨k, p.fr, p.to_, p.data.length⟩ :: envs (k + 1) l
theorem envs_len : ∀ (l : List PoD) (k : Nat), (envs k l).length = l.length
  | [], _ => rfl
  | _ :: l, k => by rw [envs, List.length_cons, List.length_cons, envs_len l]
theorem envs_append : ∀ (a b : List PoD) (k : Nat), envs k (a ++ b) = envs k a ++ envs (k + a.length) b
  | [], b, k => rfl
  | p :: a, b, k => by
    rw [List.cons_append, envs, envs, envs_append a b, List.cons_append, List.length_cons, Nat.add_right_comm, Nat.add_assoc]
def WS.posts (S : WS) (l : List PoD) : WS := { S with lts := S.lts ++ l }
def tickO : Ordr := ⟨7, 0, 0, 0⟩
def WS.aged (S : WS) : WS := { S with sh := fun i k => ((S.sh i k).does tickO).1 }
def rumsTo (c : Cfg) (S : WS) (i : Nat) (k : Nat) : List PoD := ((List.range k).filter fun j => !(j == i)).map fun j : Nat => ⟨(i : Int), (j : Int), (rumourP c i j (S.st i)).1⟩
def sendsOf (c : Cfg) (S : WS) (i : Nat) : List PoD := ⟨i, c.n, (asksP c (S.ask i)).1⟩ :: rumsTo c S i c.n
def sendsTo (c : Cfg) (S : WS) (k : Nat) : List PoD := (List.range k).flatMap (sendsOf c S)
def grantOf (c : Cfg) (S : WS) (j : Nat) : List Int := (roundB c.cap c.tk (S.bk j)).2.1
def reportOf (c : Cfg) (S : WS) (j : Nat) : Int := (roundB c.cap c.tk (S.bk j)).2.2
/-- what the first k books report, and grant to who -/
def reportsTo (c : Cfg) (S : WS) (k : Nat) : List Int := (List.range k).filterMap fun j => if 0 ≤ reportOf c S j then some (reportOf c S j) else none
def givenTo (c : Cfg) (S : WS) (k who : Nat) : List Int := (List.range k).map fun j => (grantOf c S j).getD who 0
def WS.rounds (c : Cfg) (S : WS) (k : Nat) : WS := { S with bk := fun j => if j < k then (roundB c.cap c.tk (S.bk j)).1 else S.bk j }
def grantsTo (c : Cfg) (S : WS) (k : Nat) : List PoD := (List.range k).map fun i : Nat => ⟨(c.n : Int), (i : Int), (asksP c (givenTo c S c.m i)).1⟩
def tickW (c : Cfg) (S : WS) : TolD × WS :=
  (⟨0, 0, Stk.none, 0, envs S.lts.length (sendsTo c S.aged c.n ++ grantsTo c S c.n), [], reportsTo c S c.m⟩, (S.aged.rounds c c.m).posts (sendsTo c S.aged c.n ++ grantsTo c S c.n))
def WS.to_ (S : WS) (id : Int) : Int := toP S.lts id
def dueW (S : WS) (id : Int) : Int :=
  if S.to_ id < 0 then 6 else match S.lts[id.toNat]? with
    | none => 6
    | some p => if S.lost id || decide (id < S.top p.fr p.to_) then 10 else 0
def WS.lose (S : WS) (id : Int) : WS := { S with lost := fun k => if k = id then true else S.lost k }
def WS.wants (S : WS) (fr : Nat) (l : List Int) (k : Nat) : WS := { S with bk := fun j => if j < k then wantB (S.bk j) fr (l.getD j 0) else S.bk j }
/-- item k of branch i gains -/
def gnAt (S : WS) (i : Nat) (l : List Int) (k : Nat) : WS :=
  if (S.gn i).getD k 0 < l.getD k 0 then { S with sh := upd1 S.sh i (upd1 (S.sh i) k ((S.sh i k).does ⟨1, l.getD k 0 - (S.gn i).getD k 0, 0, 0⟩).1), gn := upd1 S.gn i ((S.gn i).set k (l.getD k 0)) } else S
def gainsW (i : Nat) (l : List Int) : Nat → WS → WS
  | 0, S => S
  | k + 1, S => gnAt (gainsW i l k S) i l k
def learnsL (R : List (List Ent)) : Nat → List (List Ent) → List (List Ent)
  | 0, q => q
  | k + 1, q => (learnsL R k q).set k (mergeP ((learnsL R k q).getD k []) (R.getD k [])).1
def WS.learns (S : WS) (i : Nat) (R : List (List Ent)) (k : Nat) : WS := { S with st := upd1 S.st i (learnsL R k (S.st i)) }
def comeW (c : Cfg) (S : WS) (p : PoD) : WS :=
  if p.to_ = c.br then S.wants p.fr.toNat (askedP c p.data).1 (askedP c p.data).1.length
  else if p.fr = c.br then gainsW p.to_.toNat (askedP c p.data).1 (askedP c p.data).1.length S
  else S.learns p.to_.toNat (heardP c p.fr p.to_ p.data).1 (heardP c p.fr p.to_ p.data).1.length
def WS.opened (S : WS) (p : PoD) (id : Int) : WS := { S with top := fun f t => if f = p.fr ∧ t = p.to_ then id + 1 else S.top f t }
def deliverW (c : Cfg) (S : WS) (id : Int) : TolD × WS :=
  if dueW S id = 6 then (told0 6 0, S)
  else match S.lts[id.toNat]? with
    | none => (told0 6 0, S)
    | some p => if dueW S id ≠ 0 then (told0 (dueW S id) p.to_, S) else (⟨0, p.to_, Stk.none, 0, [], p.data, []⟩, comeW c (S.opened p id) p)
def entryW (c : Cfg) (S : WS) (s : StpI) (i : Nat) : TolD × WS :=
  if s.label < 0 ∨ (c.ln : Int) ≤ s.label ∨ s.key < 0 ∨ 8 ≤ s.key ∨ (s.kind = 7 ∧ (s.count < 0 ∨ 255 < s.count)) then (told0 2 i, S)
  else if ((c.la.zs.getD s.label.toNat 0).toNat.testBit i) = false then (told0 11 i, S)
  else if s.kind = 7 then (told0 0 i, { S with st := upd1 S.st i ((S.st i).set s.label.toNat (putE ((S.st i).getD s.label.toNat []) i s.key s.count false)) })
  else if (findE ((S.st i).getD s.label.toNat []) s.key).2 = false then (told0 6 i, S)
  else (⟨0, i, Stk.none, (findE ((S.st i).getD s.label.toNat []) s.key).1.value, [], [], []⟩, S)
def clientW (c : Cfg) (S : WS) (s : StpI) (i : Nat) : TolD × WS :=
  if s.kind = 7 ∨ s.kind = 8 then entryW c S s i
  else if s.item < 0 ∨ (c.m : Int) ≤ s.item then (told0 2 i, S)
  else if s.kind = 1 then
    (if s.count < 1 ∨ 1048576 < s.count then (told0 2 i, S)
     else if 1048576 < (S.ask i).getD s.item.toNat 0 + s.count then (told0 12 i, S)
     else (told0 0 i, { S with ask := upd1 S.ask i ((S.ask i).set s.item.toNat ((S.ask i).getD s.item.toNat 0 + s.count)) }))
  else
    let r := (S.sh i s.item.toNat).does ⟨s.kind, s.count, s.life, s.id⟩
    (⟨r.2.code, i, { r.2 with code := 0 }, 0, [], [], []⟩, { S with sh := upd1 S.sh i (upd1 (S.sh i) s.item.toNat r.1) })
def stepW (c : Cfg) (S : WS) (s : StpI) : TolD × WS :=
  if s.kind = 9 then tickW c S
  else if s.kind = 10 then deliverW c S s.id
  else if s.kind = 11 then (if dueW S s.id = 0 then (told0 0 0, S.lose s.id) else (told0 (dueW S s.id) 0, S))
  else if s.kind < 1 ∨ 11 < s.kind then (told0 3 0, S)
  else if s.who < 0 ∨ c.br ≤ s.who then (told0 2 0, S)
  else clientW c S s s.who.toNat
def WS.new (c : Cfg) : WS where
  sh := fun _ _ => Shf.new
  ask := fun _ => List.replicate c.m 0
  gn := fun _ => List.replicate c.m 0
  st := fun _ => List.replicate c.ln []
  bk := fun j => if j < c.m then stockB (BkS.new c.n) (c.mi.zs.getD j 0) else BkS.new c.n
  lts := []
  top := fun _ _ => 0
  lost := fun _ => false
def runW (c : Cfg) : List StpI → WS → List TolD × WS
  | [], S => ([], S)
  | s :: l, S => ((stepW c S s).1 :: (runW c l (stepW c S s).2).1, (runW c l (stepW c S s).2).2)
theorem runW_snoc (c : Cfg) (s : StpI) : ∀ (l : List StpI) (S : WS), runW c (l ++ [s]) S = ((runW c l S).1 ++ [(stepW c (runW c l S).2 s).1], (stepW c (runW c l S).2 s).2)
  | [], S => rfl
  | x :: l, S => by
    rw [List.cons_append, runW, runW_snoc c s l, runW]
    rfl
theorem runW_len (c : Cfg) : ∀ (l : List StpI) (S : WS), (runW c l S).1.length = l.length
  | [], _ => rfl
  | x :: l, S => by rw [runW, List.length_cons, runW_len c l, List.length_cons]
end
section
open Go.RowKit
inductive Tag where
  | no
  | con
  | sh (i : Nat)
  | ask (i : Nat)
  | gn (i : Nat)
  | str (i : Nat)
  | bk (j : Nat)
  | off
  | lst
deriving DecidableEq
/-- the blocks of a branch -/
structure BrA where
  b : Nat
  s : Nat
  a : Nat
  g : Nat
  t : Nat
/-- the blocks that stay -/
structure Lay where
  hb : Nat
  bb : Nat
  bc : Nat
  kb : Nat
  kc : Nat
  og : Nat
  ob : Nat
  lb : Nat
  br : Nat → BrA
  bg : Nat → Nat
structure ConAt (w : World) (c : Cfg) (y : Lay) (own : Nat → Prop) : Prop where
  blk : Blk w y.hb 63 #[.int .i64 c.br, .slice c.la.A c.la.n c.la.c, .int .i64 c.tk, .slice c.mi.A c.mi.n c.mi.c, .int .i64 c.cap, .slice (some ⟨y.bb, 0, none⟩) c.n y.bc, .slice (some ⟨y.kb, 0, none⟩) c.m y.kc, .pointer (some ⟨y.og, 0, none⟩), .map (some y.lb)]
  row : ∃ cs, Blk w y.bb 64 cs ∧ ∀ i, i < c.n → cs[i]? = some (.pointer (some ⟨(y.br i).b, 0, none⟩))
  bks : ∃ cs, Blk w y.kb 70 cs ∧ ∀ j, j < c.m → cs[j]? = some (.pointer (some ⟨y.bg j, 0, none⟩))
  brs : ∀ i, i < c.n → Blk w (y.br i).b 69 #[.slice (some ⟨(y.br i).s, 0, none⟩) c.m c.m, .slice (some ⟨(y.br i).a, 0, none⟩) c.m c.m, .slice (some ⟨(y.br i).g, 0, none⟩) c.m c.m, .slice (some ⟨(y.br i).t, 0, none⟩) c.ln c.ln]
  o1 : own y.hb
  o2 : own y.bb
  o3 : own y.kb
  o4 : ∀ i, i < c.n → own (y.br i).b
/-- a branch's shelves -/
structure ShRow (w : World) (base g m : Nat) (f : Nat → Shf) (own : Nat → Prop) : Prop where
  at_ : ∃ cs, ∃ vs : Nat → Value, (∀ k, k < m → ShAt w base g (k * 4) cs (f k) (vs k) ∧ ∀ b, (vs k).ownBlock = some b → own b) ∧ ∀ k k', k < m → k' < m → k ≠ k' → ∀ b, (vs k).ownBlock = some b → (vs k').ownBlock ≠ some b
  o : own g
structure NumRow (w : World) (base g : Nat) (zs : List Int) (own : Nat → Prop) : Prop where
  row : IRow w g zs []
  low : base ≤ g
  o : own g
structure StRow (w : World) (base g : Nat) (q : List (List Ent)) (own : Nat → Prop) : Prop where
  at_ : ∃ SS : List EnR, StoreAt w base g SS ∧ SS.map EnR.es = q ∧ ∀ r ∈ SS, ∀ b, r.val.ownBlock = some b → own b
  o : own g
structure BkRow (w : World) (base g nb : Nat) (most ticks : Int) (s : BkS) (own : Nat → Prop) : Prop where
  at_ : ∃ p : BkL, p.g = g ∧ BkAt w base nb p most ticks s ∧ ∀ k, p.has k → own k
structure OfRow (w : World) (base g b : Nat) (l : List PoD) (top : Int → Int → Int) (K : Nat) (own : Nat → Prop) : Prop where
  at_ : ∃ v ps m, OfAt w base g b v ps m top ∧ m ≤ K ∧ ps.map (·.d) = l ∧ (∀ p ∈ ps, p.n ≤ 1000000 ∧ ∀ k, (Value.slice p.A p.n p.c).ownBlock = some k → own k) ∧ ∀ k, v.ownBlock = some k → own k
  o1 : own g
  o2 : own b
structure LsRow (w : World) (b : Nat) (lost : Int → Bool) (K : Nat) (own : Nat → Prop) : Prop where
  at_ : ∃ m, LostMap w b m lost ∧ m ≤ K
  o : own b
section
variable {w w' : World} {base : Nat} {own own' D : Nat → Prop}
theorem ConAt.only {c : Cfg} {y : Lay} (h : ConAt w c y own) (ho : Only D w w') (hD : ∀ k, k < w.heap.size → own k → ¬ D k) (hw : ∀ k, k < w.heap.size → own k → own' k) : ConAt w' c y own' := by
  obtain ⟨h1, ⟨cs, h2, h3⟩, ⟨ds, h4, h5⟩, h6, o1, o2, o3, o4⟩ := h
  exact ⟨h1.only ho (hD _ h1.lt o1), ⟨cs, h2.only ho (hD _ h2.lt o2), h3⟩, ⟨ds, h4.only ho (hD _ h4.lt o3), h5⟩, fun i hi => (h6 i hi).only ho (hD _ (h6 i hi).lt (o4 i hi)), hw _ h1.lt o1, hw _ h2.lt o2, hw _ h4.lt o3, fun i hi => hw _ (h6 i hi).lt (o4 i hi)⟩
theorem ShRow.only {g m : Nat} {f : Nat → Shf} (h : ShRow w base g m f own) (hm : 0 < m) (ho : Only D w w') (hD : ∀ k, k < w.heap.size → own k → ¬ D k) (hw : ∀ k, k < w.heap.size → own k → own' k) : ShRow w' base g m f own' := by
  obtain ⟨⟨cs, vs, h1, h2⟩, o⟩ := h
  have hg := (h1 0 hm).1.blk.lt
  refine ⟨⟨cs, vs, fun k hk => ?_, h2⟩, hw _ hg o⟩
  obtain ⟨h3, h4⟩ := h1 k hk
  exact ⟨h3.only ho (hD _ hg o) (fun b hb => hD _ (h3.own.lt b hb).2 (h4 b hb)), fun b hb => hw _ (h3.own.lt b hb).2 (h4 b hb)⟩
theorem NumRow.only {g : Nat} {zs : List Int} (h : NumRow w base g zs own) (ho : Only D w w') (hD : ∀ k, k < w.heap.size → own k → ¬ D k) (hw : ∀ k, k < w.heap.size → own k → own' k) : NumRow w' base g zs own' :=
  ⟨Blk.only h.row ho (hD _ (Blk.lt h.row) h.o), h.low, hw _ (Blk.lt h.row) h.o⟩
theorem StRow.only {g : Nat} {q : List (List Ent)} (h : StRow w base g q own) (ho : Only D w w') (hD : ∀ k, k < w.heap.size → own k → ¬ D k) (hw : ∀ k, k < w.heap.size → own k → own' k) : StRow w' base g q own' := by
  obtain ⟨⟨SS, h1, h2, h3⟩, o⟩ := h
  exact ⟨⟨SS, h1.only ho (hD _ h1.blk.lt o) (fun r hr b hb => hD _ ((h1.rows r hr).lt b hb).2 (h3 r hr b hb)), h2, fun r hr b hb => hw _ ((h1.rows r hr).lt b hb).2 (h3 r hr b hb)⟩, hw _ h1.blk.lt o⟩
theorem BkRow.only {g nb : Nat} {most ticks : Int} {s : BkS} (h : BkRow w base g nb most ticks s own) (ho : Only D w w') (hD : ∀ k, k < w.heap.size → own k → ¬ D k) (hw : ∀ k, k < w.heap.size → own k → own' k) : BkRow w' base g nb most ticks s own' := by
  obtain ⟨p, h1, h2, h3⟩ := h.at_
  exact ⟨⟨p, h1, h2.only ho (fun k hk => hD _ (h2.lt k hk) (h3 k hk)), fun k hk => hw _ (h2.lt k hk) (h3 k hk)⟩⟩
theorem OfRow.only {g b K : Nat} {l : List PoD} {top : Int → Int → Int} (h : OfRow w base g b l top K own) (ho : Only D w w') (hD : ∀ k, k < w.heap.size → own k → ¬ D k) (hw : ∀ k, k < w.heap.size → own k → own' k) : OfRow w' base g b l top K own' := by
  obtain ⟨⟨v, ps, m, h1, h2, h3, h4, h5⟩, o1, o2⟩ := h
  exact ⟨⟨v, ps, m, h1.only ho (hD _ h1.blk.lt o1) (hD _ h1.map.lt o2) (fun k hk => hD _ (h1.own.lt k hk).2 (h5 k hk)) (fun p hp k hk => hD _ ((h1.rows p hp).lt k hk).2 ((h4 p hp).2 k hk)), h2, h3,
    fun p hp => ⟨(h4 p hp).1, fun k hk => hw _ ((h1.rows p hp).lt k hk).2 ((h4 p hp).2 k hk)⟩, fun k hk => hw _ (h1.own.lt k hk).2 (h5 k hk)⟩, hw _ h1.blk.lt o1, hw _ h1.map.lt o2⟩
theorem LsRow.only {b K : Nat} {lost : Int → Bool} (h : LsRow w b lost K own) (ho : Only D w w') (hD : ∀ k, k < w.heap.size → own k → ¬ D k) (hw : ∀ k, k < w.heap.size → own k → own' k) : LsRow w' b lost K own' := by
  obtain ⟨⟨m, h1, h2⟩, o⟩ := h
  exact ⟨⟨m, h1.only ho (hD _ h1.lt o), h2⟩, hw _ h1.lt o⟩
end
/-- the part that has tag t -/
def Pc (c : Cfg) (y : Lay) (S : WS) (K base : Nat) : Tag → World → (Nat → Prop) → Prop
  | .no, _, _ => True
  | .con, w, own => ConAt w c y own
  | .sh i, w, own => i < c.n → ShRow w base (y.br i).s c.m (S.sh i) own
  | .ask i, w, own => i < c.n → NumRow w base (y.br i).a (S.ask i) own
  | .gn i, w, own => i < c.n → NumRow w base (y.br i).g (S.gn i) own
  | .str i, w, own => i < c.n → StRow w base (y.br i).t (S.st i) own
  | .bk j, w, own => j < c.m → BkRow w base (y.bg j) c.n c.cap c.tk (S.bk j) own
  | .off, w, own => OfRow w base y.og y.ob S.lts S.top K own
  | .lst, w, own => LsRow w y.lb S.lost K own
theorem Pc.only {c : Cfg} {y : Lay} {S : WS} {K base : Nat} {w w' : World} {own own' D : Nat → Prop} (hm : 0 < c.m) (t : Tag) (h : Pc c y S K base t w own) (ho : Only D w w') (hD : ∀ k, k < w.heap.size → own k → ¬ D k) (hw : ∀ k, k < w.heap.size → own k → own' k) : Pc c y S K base t w' own' := by
  cases t with
  | no => trivial
  | con => exact ConAt.only h ho hD hw
  | sh i => exact fun hi => (h hi).only hm ho hD hw
  | ask i => exact fun hi => (h hi).only ho hD hw
  | gn i => exact fun hi => (h hi).only ho hD hw
  | str i => exact fun hi => (h hi).only ho hD hw
  | bk j => exact fun hj => (h hj).only ho hD hw
  | off => exact OfRow.only h ho hD hw
  | lst => exact LsRow.only h ho hD hw
/-- all of it; 'ow' says whose a block is -/
structure PW (w : World) (c : Cfg) (y : Lay) (S : WS) (K base : Nat) (ow : Nat → Tag) : Prop where
  pc : ∀ t, Pc c y S K base t w (fun k => ow k = t)
  low : ∀ k, ow k ≠ .no → base ≤ k
  fresh : ∀ k, w.heap.size ≤ k → ow k = .no
  cfg : c.ok w base
  may : configP c = true
  bw : base ≤ w.heap.size
theorem config_facts {c : Cfg} (h : configP c = true) : (c.br = c.n ∧ 1 ≤ c.n ∧ c.n ≤ 8) ∧ c.ln ≤ 4 ∧ (1 ≤ c.tk ∧ c.tk ≤ 8) ∧ (1 ≤ c.m ∧ c.m ≤ 3) ∧ (0 ≤ c.cap ∧ c.cap ≤ 1048576) ∧ (∀ z ∈ c.la.zs, 0 ≤ z ∧ z < 2 ^ c.n) ∧ ∀ z ∈ c.mi.zs, 0 ≤ z ∧ z ≤ 1048576 := by
  unfold configP inB at h
  simp only [Bool.and_eq_true, decide_eq_true_eq, Bool.not_eq_true', List.any_eq_false] at h
  obtain ⟨⟨⟨⟨⟨⟨h1, h2⟩, h3⟩, h4⟩, h5⟩, h6⟩, h7⟩ := h
  refine ⟨by unfold Cfg.n; omega, h2, h3, by unfold Cfg.m; omega, h5, fun z hz => ?_, fun z hz => ?_⟩
  · have := h6 z hz
    unfold badLab at this
    simp only [Bool.or_eq_true, decide_eq_true_eq, not_or] at this
    unfold Cfg.n
    omega
  · have := h7 z hz
    unfold badN at this
    simp only [Bool.or_eq_true, decide_eq_true_eq, not_or] at this
    omega
section
variable {w w' : World} {c : Cfg} {y : Lay} {S S' : WS} {K K' base : Nat} {ow ow' : Nat → Tag} {D : Nat → Prop}
theorem PW.m0 (h : PW w c y S K base ow) : 0 < c.m := (config_facts h.may).2.2.2.1.1
/-- the world turned elsewhere -/
theorem PW.far (h : PW w c y S K base ow) (ho : Only D w w') (hD : ∀ k, k < w.heap.size → D k → ow k = .no) (hDb : ∀ k, k < base → ¬ D k) : PW w' c y S K base ow := by
  refine ⟨fun t => ?_, h.low, fun k hk => h.fresh k (Nat.le_trans ho.size hk), h.cfg.below (ho.to_below (fun x hx _ => hDb x hx) h.bw), h.may, Nat.le_trans h.bw ho.size⟩
  cases t with
  | no => trivial
  | _ => exact Pc.only h.m0 _ (h.pc _) ho (fun k hk hk2 hk3 => by have := hD k hk hk3; rw [this] at hk2; cases hk2) (fun k _ hk => hk)
theorem PW.calm (h : PW w c y S K base ow) (hb : Below w.heap.size w w') : PW w' c y S K base ow :=
  h.far (D := fun k => w.heap.size ≤ k) (Only.of_below hb fun _ _ h => h) (fun k hk hk2 => by omega) (fun k hk hk2 => by have := h.bw; omega)
/-- one part turned: 'F' are its new blocks -/
def reOwn (ow : Nat → Tag) (w w' : World) (t : Tag) (F : Nat → Bool) (k : Nat) : Tag := if k < w.heap.size then ow k else if k < w'.heap.size ∧ F k = true then t else .no
theorem PW.turn (t : Tag) (F : Nat → Bool) (h : PW w c y S K base ow) (ht : t ≠ .no) (ho : Only D w w') (hD : ∀ k, k < w.heap.size → D k → ow k = t) (hS : ∀ u, u ≠ t → ∀ W own, Pc c y S K base u W own → Pc c y S' K' base u W own)
    (hn : Pc c y S' K' base t w' (fun k => reOwn ow w w' t F k = t)) : PW w' c y S' K' base (reOwn ow w w' t F) := by
  refine ⟨fun u => ?_, fun k hk => ?_, fun k hk => ?_, h.cfg.below (ho.to_below (fun x hx hx2 hx3 => ?_) h.bw), h.may, Nat.le_trans h.bw ho.size⟩
  · by_cases hu : u = t
    · subst hu; exact hn
    · refine hS u hu _ _ (Pc.only h.m0 u (h.pc u) ho (fun k hk h1 h2 => hu ?_) (fun k hk h1 => ?_))
      · rw [← h1, hD k hk h2]
      · show reOwn ow w w' t F k = u
        unfold reOwn
        rw [if_pos hk]
        exact h1
  · unfold reOwn at hk
    split at hk
    · exact h.low k hk
    · have := h.bw; omega
  · unfold reOwn
    have := ho.size
    rw [if_neg (by omega), if_neg (by omega)]
  · have := h.low x (by rw [hD x hx2 hx3]; exact ht)
    omega
/-- what a step leaves aS it was -/
structure Kept (w w' : World) (ow ow' : Nat → Tag) : Prop where
  only : Only (fun k => ow k ≠ .no) w w'
  old : ∀ k, k < w.heap.size → ow' k = ow k
theorem Kept.refl (w : World) (ow : Nat → Tag) : Kept w w ow ow := ⟨Only.refl _ _, fun _ _ => rfl⟩
theorem Kept.trans {w'' : World} {ow'' : Nat → Tag} (h : Kept w w' ow ow') (k : Kept w' w'' ow' ow'') : Kept w w'' ow ow'' :=
  ⟨h.only.trans k.only (fun x hx hx2 => by rw [← h.old x hx]; exact hx2), fun x hx => (k.old x (Nat.lt_of_lt_of_le hx h.only.size)).trans (h.old x hx)⟩
theorem Kept.calm (hb : Below w.heap.size w w') : Kept w w' ow ow := ⟨Only.of_below hb (fun x h1 h2 => by omega), fun _ _ => rfl⟩
theorem Kept.turn (t : Tag) (F : Nat → Bool) (ht : t ≠ .no) (ho : Only D w w') (hD : ∀ k, k < w.heap.size → D k → ow k = t) : Kept w w' ow (reOwn ow w w' t F) :=
  ⟨ho.mono fun x hx hd => by rw [hD x hx hd]; exact ht, fun k hk => by unfold reOwn; rw [if_pos hk]⟩
theorem Kept.below (h : Kept w w' ow ow') (hw : PW w c y S K base ow) : Below base w w' := h.only.to_below (fun x hx hx2 hx3 => by have := hw.low x hx3; omega) hw.bw
theorem Kept.own (h : Kept w w' ow ow') {b e size n : Nat} {v : Value} {xs : List Value} (hv : w.ownsRow b e size v n xs) (hn : ∀ k, v.ownBlock = some k → ow k = .no) : w'.ownsRow b e size v n xs :=
  own_only hv h.only (fun k hk hk2 => hk2 (hn k hk))
theorem Kept.blk (h : Kept w w' ow ow') {g : Nat} {t : TypeId} {cs : Array Value} (hv : Blk w g t cs) (hn : ow g = .no) : Blk w' g t cs := hv.only h.only (fun hk2 => hk2 hn)
end
end
section
open Go.RowKit
theorem fold_mem : ∀ (b a : List Ent) (z : Ent), z ∈ b.foldl insE a → z ∈ a ∨ z ∈ b
  | [], a, z, h => Or.inl h
  | y :: b, a, z, h => by
    rcases fold_mem b (insE a y) z h with h | h
    · rcases insE_mem a y z h with h | h
      · exact Or.inl h
      · exact Or.inr (by simp [h])
    · exact Or.inr (by simp [h])
theorem mayP_mk {l : List Ent} (h1 : ∀ x ∈ l, oneP x = true) (h2 : SortedE l) (h3 : l.length ≤ 8) : mayP l = true := by
  unfold mayP
  rw [entsGo_mk l none h1 h2 (fun q hq => by cases hq)]
  simpa using h3
theorem merge_may (a b : List Ent) : mayP (mergeP a b).1 = true := by
  unfold mergeP
  split
  · rename_i h
    rw [Bool.and_eq_true] at h
    split
    · rfl
    · rename_i h8
      obtain ⟨sa, ka, _, oa⟩ := mayP_facts h.1
      obtain ⟨_, kb, _, ob⟩ := mayP_facts h.2
      refine mayP_mk (fun x hx => ?_) (fold_facts b kb a sa ka).1 (by dsimp only; omega)
      rcases fold_mem b a x hx with h | h
      · exact oa x h
      · exact ob x h
  · rfl
theorem may_times {l : List Ent} (h : mayP l = true) : ∀ e ∈ l, 0 ≤ e.time ∧ e.time ≤ 2000000 := fun e he => by
  have := (oneP_facts ((mayP_facts h).2.2.2 e he)).2.2.1
  omega
theorem packP_u8 (fs : List (Int × Int)) : ∀ z ∈ (packP fs).1, 0 ≤ z ∧ z ≤ 255 := by
  intro z hz
  unfold packP at hz
  split at hz
  · cases hz
  split at hz
  · unfold bytesOf at hz
    obtain ⟨i, _, rfl⟩ := List.mem_map.1 hz
    have := byteOf_le (allBits fs) (allBits_le _) i
    omega
  · cases hz
theorem asksP_u8 (c : Cfg) (zs : List Int) : ∀ z ∈ (asksP c zs).1, 0 ≤ z ∧ z ≤ 255 := by
  unfold asksP
  intro z hz
  split at hz
  · cases hz
  split at hz
  · cases hz
  split at hz
  · cases hz
  · exact packP_u8 _ z hz
theorem rumP_u8 (c : Cfg) (a b : Int) (rows : List (List Ent)) : ∀ z ∈ (rumourP c a b rows).1, 0 ≤ z ∧ z ≤ 255 := by
  intro z hz
  unfold rumourP at hz
  split at hz
  · cases hz
  split at hz
  · cases hz
  split at hz
  · cases hz
  split at hz
  · cases hz
  split at hz
  · cases hz
  · unfold bytesOf at hz
    obtain ⟨i, _, rfl⟩ := List.mem_map.1 hz
    have := byteOf_le (allBits (rumFs rows (bothGo a.toNat b.toNat c.la.zs 0))) (allBits_le _) i
    omega
theorem valsB_nn (bs : List Int) : ∀ (ws : List Int) (a : Nat), ∀ z ∈ valsB bs ws a, 0 ≤ z
  | [], a, z, h => by cases h
  | y :: ws, a, z, h => by
    rw [valsB, List.mem_cons] at h
    rcases h with rfl | h
    · omega
    · exact valsB_nn bs ws _ z h
theorem askedP_vals (c : Cfg) (bs : List Int) : (∀ z ∈ (askedP c bs).1, 0 ≤ z ∧ z ≤ 1048576) ∧ ((askedP c bs).1.length = 0 ∨ (askedP c bs).1.length = c.m) := by
  unfold askedP
  split
  · exact ⟨fun z hz => (by cases hz), Or.inl rfl⟩
  split
  · exact ⟨fun z hz => (by cases hz), Or.inl rfl⟩
  split
  · exact ⟨fun z hz => (by cases hz), Or.inl rfl⟩
  · rename_i h1 h2 h3
    refine ⟨fun z hz => ?_, Or.inr ?_⟩
    · have h4 : bigN z = false := by
        cases hb : bigN z with
        | false => rfl
        | true => exact absurd (List.any_eq_true.2 ⟨z, hz, hb⟩) h3
      have h5 : 0 ≤ z := by
        dsimp only at hz
        unfold unpackP at hz
        split at hz
        · cases hz
        split at hz
        · cases hz
        split at hz
        · exact valsB_nn _ _ _ z hz
        · cases hz
      simp [bigN] at h4
      omega
    · dsimp only
      rw [unpackP_len _ _ (by simpa using h2), List.length_replicate]
      rfl
theorem heardP_len (c : Cfg) (a b : Int) (bs : List Int) : (heardP c a b bs).1.length = 0 ∨ (heardP c a b bs).1.length = c.ln := by
  unfold heardP
  split
  · exact Or.inl rfl
  split
  · exact Or.inl rfl
  split
  · exact Or.inl rfl
  split
  · exact Or.inr (rowsN_len _ _ _ _)
  · exact Or.inl rfl
/-- what a world always is, behind K steps -/
structure WS.ok (S : WS) (c : Cfg) (K : Nat) : Prop where
  sh : ∀ i k, (S.sh i k).ok K
  ask : ∀ i, (S.ask i).length = c.m ∧ ∀ z ∈ S.ask i, 0 ≤ z ∧ z ≤ 1048576
  gn : ∀ i, (S.gn i).length = c.m ∧ ∀ z ∈ S.gn i, 0 ≤ z ∧ z ≤ 1048576
  st : ∀ i, (S.st i).length = c.ln ∧ ∀ q ∈ S.st i, mayP q = true
  bk : ∀ j, (S.bk j).ok c.n K
  len : S.lts.length ≤ 72 * K
  lts : ∀ p ∈ S.lts, (0 ≤ p.fr ∧ p.fr ≤ c.n) ∧ (0 ≤ p.to_ ∧ p.to_ ≤ c.n) ∧ (∀ z ∈ p.data, 0 ≤ z ∧ z ≤ 255) ∧ (p.fr = c.n → p.to_ < c.n)
theorem shf_more {s : Shf} {K L : Int} (h : s.ok K) (hL : K ≤ L) : s.ok L := { h with madeK := Int.le_trans h.madeK hL }
theorem WS.ok.more {S : WS} {c : Cfg} {K L : Nat} (h : S.ok c K) (hL : K ≤ L) : S.ok c L :=
  { h with sh := fun i k => shf_more (h.sh i k) (by omega), bk := fun j => ok_more (h.bk j) (by omega), len := by have := h.len; omega }
theorem does_ok {s : Shf} {K : Int} (h : s.ok K) (o : Ordr) : (s.does o).1.ok (K + 1) := order_ok h o
theorem set_bounds {l : List Int} {m : Nat} (h : l.length = m ∧ ∀ z ∈ l, 0 ≤ z ∧ z ≤ 1048576) (k : Nat) (x : Int) (hx : 0 ≤ x ∧ x ≤ 1048576) : (l.set k x).length = m ∧ ∀ z ∈ l.set k x, 0 ≤ z ∧ z ≤ 1048576 :=
  ⟨by rw [List.length_set]; exact h.1, fun z hz => by
    rcases List.mem_or_eq_of_mem_set hz with hz | rfl
    · exact h.2 z hz
    · exact hx⟩
theorem getD_bounds {l : List Int} (h : ∀ z ∈ l, 0 ≤ z ∧ z ≤ 1048576) (k : Nat) : 0 ≤ l.getD k 0 ∧ l.getD k 0 ≤ 1048576 := by
  rw [List.getD_eq_getElem?_getD]
  cases hk : l[k]? with
  | none => simp
  | some x => exact h x (List.mem_of_getElem? hk)
theorem sends_ok {c : Cfg} {S : WS} {k : Nat} (hk : k ≤ c.n) : ∀ p ∈ sendsTo c S k, (0 ≤ p.fr ∧ p.fr ≤ c.n) ∧ (0 ≤ p.to_ ∧ p.to_ ≤ c.n) ∧ (∀ z ∈ p.data, 0 ≤ z ∧ z ≤ 255) ∧ (p.fr = c.n → p.to_ < c.n) := by
  intro p hp
  unfold sendsTo at hp
  obtain ⟨i, hi, hp⟩ := List.mem_flatMap.1 hp
  have hi' := List.mem_range.1 hi
  unfold sendsOf at hp
  rcases List.mem_cons.1 hp with rfl | hp
  · exact ⟨by dsimp only; omega, by dsimp only; omega, asksP_u8 _ _, fun h => by dsimp only at h; omega⟩
  · unfold rumsTo at hp
    obtain ⟨j, hj, rfl⟩ := List.mem_map.1 hp
    have hj' := List.mem_range.1 (List.mem_filter.1 hj).1
    exact ⟨by dsimp only; omega, by dsimp only; omega, rumP_u8 _ _ _ _, fun h => by dsimp only at h; omega⟩
theorem grants_ok {c : Cfg} {S : WS} {k : Nat} (hk : k ≤ c.n) : ∀ p ∈ grantsTo c S k, (0 ≤ p.fr ∧ p.fr ≤ c.n) ∧ (0 ≤ p.to_ ∧ p.to_ ≤ c.n) ∧ (∀ z ∈ p.data, 0 ≤ z ∧ z ≤ 255) ∧ (p.fr = c.n → p.to_ < c.n) := by
  intro p hp
  unfold grantsTo at hp
  obtain ⟨i, hi, rfl⟩ := List.mem_map.1 hp
  have hi' := List.mem_range.1 hi
  exact ⟨by dsimp only; omega, by dsimp only; omega, asksP_u8 _ _, fun _ => by dsimp only; omega⟩
theorem rums_len (c : Cfg) (S : WS) (i k : Nat) : (rumsTo c S i k).length ≤ k := by
  unfold rumsTo
  rw [List.length_map]
  exact Nat.le_trans (List.length_filter_le _ _) (by rw [List.length_range]; exact Nat.le_refl _)
theorem rums_len' (c : Cfg) (S : WS) (i k : Nat) (hi : i < k) : (rumsTo c S i k).length + 1 ≤ k := by
  unfold rumsTo
  rw [List.length_map]
  have h : ((List.range k).filter fun j => !(j == i)).length < (List.range k).length := by
    refine List.length_filter_lt_length_iff_exists.2 ⟨i, List.mem_range.2 hi, by simp⟩
  rw [List.length_range] at h
  omega
theorem sends_len (c : Cfg) (S : WS) (hn : c.n ≤ 8) : ∀ k, k ≤ c.n → (sendsTo c S k).length ≤ 8 * k
  | 0, _ => by simp [sendsTo]
  | k + 1, hk => by
    have h1 := sends_len c S hn k (by omega)
    have h2 := rums_len' c S k c.n (by omega)
    unfold sendsTo at h1 ⊢
    rw [List.range_succ, List.flatMap_append, List.length_append]
    simp only [List.flatMap_cons, List.flatMap_nil, List.append_nil]
    have h3 : (sendsOf c S k).length = (rumsTo c S k c.n).length + 1 := rfl
    omega
theorem grants_len (c : Cfg) (S : WS) (k : Nat) : (grantsTo c S k).length = k := by simp [grantsTo]
theorem learnsL_ok (R : List (List Ent)) : ∀ (k : Nat) (q : List (List Ent)), (∀ r ∈ q, mayP r = true) → (learnsL R k q).length = q.length ∧ ∀ r ∈ learnsL R k q, mayP r = true
  | 0, q, h => ⟨rfl, h⟩
  | k + 1, q, h => by
    obtain ⟨h1, h2⟩ := learnsL_ok R k q h
    rw [learnsL]
    refine ⟨by rw [List.length_set, h1], fun r hr => ?_⟩
    rcases List.mem_or_eq_of_mem_set hr with hr | rfl
    · exact h2 r hr
    · exact merge_may _ _
theorem gnAt_ok {S : WS} {c : Cfg} {K L : Nat} (i k : Nat) (l : List Int) (hl : ∀ z ∈ l, 0 ≤ z ∧ z ≤ 1048576) (h : S.ok c L) (hs : ∀ a b, (a ≠ i ∨ k ≤ b) → (S.sh a b).ok K) (hKL : L = K + 1) :
    (gnAt S i l k).ok c L ∧ ∀ a b, (a ≠ i ∨ k + 1 ≤ b) → ((gnAt S i l k).sh a b).ok K := by
  unfold gnAt
  split
  · refine ⟨{ h with sh := fun a b => ?_, gn := fun a => ?_ }, fun a b hab => ?_⟩
    · dsimp only
      rw [upd1_if]
      split
      · rw [upd1_if]
        split
        · have := does_ok (hs i k (Or.inr (Nat.le_refl _))) ⟨1, l.getD k 0 - (S.gn i).getD k 0, 0, 0⟩
          rw [hKL]
          exact this
        · exact h.sh _ _
      · exact h.sh _ _
    · dsimp only
      unfold upd1
      split
      · exact set_bounds (h.gn i) k _ (getD_bounds hl k)
      · exact h.gn a
    · dsimp only
      rw [upd1_if]
      split
      · rename_i ha
        subst ha
        rw [upd1_if, if_neg (by omega)]
        exact hs a b (Or.inr (by omega))
      · exact hs a b (Or.inl (by assumption))
  · exact ⟨h, fun a b hab => hs a b (by omega)⟩
theorem gains_ok {c : Cfg} {K : Nat} (i : Nat) (l : List Int) (hl : ∀ z ∈ l, 0 ≤ z ∧ z ≤ 1048576) {S : WS} (h : S.ok c K) : ∀ k, (gainsW i l k S).ok c (K + 1) ∧ ∀ a b, (a ≠ i ∨ k ≤ b) → ((gainsW i l k S).sh a b).ok K
  | 0 => ⟨h.more (by omega), fun a b _ => h.sh a b⟩
  | k + 1 => by
    obtain ⟨h1, h2⟩ := gains_ok i l hl h k
    exact gnAt_ok i k l hl h1 h2 rfl
theorem come_ok {S : WS} {c : Cfg} {K : Nat} {p : PoD} (h : S.ok c K) (hf : 0 ≤ p.fr ∧ p.fr ≤ c.n) (hc : c.br = c.n) (hf2 : p.to_ = c.n → p.fr < c.n) : (comeW c S p).ok c (K + 1) := by
  obtain ⟨hv, hvl⟩ := askedP_vals c p.data
  unfold comeW
  split
  · rename_i ht
    refine { h.more (Nat.le_succ K) with bk := fun j => ?_ }
    unfold WS.wants
    dsimp only
    split
    · exact want_ok (h.bk j) (by have := hf2 (by omega); omega) (getD_bounds hv j)
    · exact ok_more (h.bk j) (by omega)
  split
  · exact (gains_ok _ _ hv h _).1
  · refine { h.more (Nat.le_succ K) with st := fun a => ?_ }
    unfold WS.learns
    dsimp only
    unfold upd1
    split
    · rename_i ha
      obtain ⟨h1, h2⟩ := learnsL_ok (heardP c p.fr p.to_ p.data).1 (heardP c p.fr p.to_ p.data).1.length (S.st p.to_.toNat) (h.st _).2
      exact ⟨h1.trans (h.st _).1, h2⟩
    · exact h.st a
theorem tick_ok {S : WS} {c : Cfg} {K : Nat} (h : S.ok c K) (hf : configP c = true) : (tickW c S).2.ok c (K + 1) := by
  obtain ⟨⟨hn, hn1, hn8⟩, _, _, _, hcap, _, _⟩ := config_facts hf
  refine { h.more (Nat.le_succ K) with sh := fun i k => does_ok (h.sh i k) tickO, bk := fun j => ?_, len := ?_, lts := fun p hp => ?_ }
  · show (if j < c.m then (roundB c.cap c.tk (S.bk j)).1 else S.bk j).ok c.n ((K + 1 : Nat) : Int)
    split
    · exact round_ok (h.bk j) hcap
    · exact ok_more (h.bk j) (by omega)
  · show (S.lts ++ (sendsTo c S.aged c.n ++ grantsTo c S c.n)).length ≤ _
    have h1 := sends_len c S.aged hn8 c.n (Nat.le_refl _)
    have h2 := grants_len c S c.n
    have := h.len
    simp only [List.length_append]
    omega
  · rcases List.mem_append.1 (show p ∈ S.lts ++ (sendsTo c S.aged c.n ++ grantsTo c S c.n) from hp) with hp | hp
    · exact h.lts p hp
    · rcases List.mem_append.1 hp with hp | hp
      · exact sends_ok (Nat.le_refl _) p hp
      · exact grants_ok (Nat.le_refl _) p hp
theorem opened_ok {S : WS} {c : Cfg} {K : Nat} (h : S.ok c K) (p : PoD) (id : Int) : (S.opened p id).ok c K := { h with }
theorem deliver_ok {S : WS} {c : Cfg} {K : Nat} (h : S.ok c K) (hf : configP c = true) (id : Int) : (deliverW c S id).2.ok c (K + 1) := by
  obtain ⟨⟨hn, hn1, hn8⟩, _⟩ := config_facts hf
  unfold deliverW
  split
  · exact h.more (Nat.le_succ K)
  cases hp : S.lts[id.toNat]? with
  | none => exact h.more (Nat.le_succ K)
  | some p =>
    dsimp only
    split
    · exact h.more (Nat.le_succ K)
    · obtain ⟨h1, h2, h3, h4⟩ := h.lts p (List.mem_of_getElem? hp)
      exact come_ok (opened_ok h p id) h1 hn (fun e => by omega)
theorem entry_ok {S : WS} {c : Cfg} {K : Nat} (h : S.ok c K) (s : StpI) (i : Nat) : (entryW c S s i).2.ok c (K + 1) := by
  unfold entryW
  split
  · exact h.more (Nat.le_succ K)
  split
  · exact h.more (Nat.le_succ K)
  split
  · refine { h.more (Nat.le_succ K) with st := fun a => ?_ }
    dsimp only
    rw [upd1_if]
    split
    · refine ⟨by rw [List.length_set]; exact (h.st i).1, fun q hq => ?_⟩
      rcases List.mem_or_eq_of_mem_set hq with hq | rfl
      · exact (h.st i).2 q hq
      · exact merge_may _ _
    · exact h.st a
  split
  · exact h.more (Nat.le_succ K)
  · exact h.more (Nat.le_succ K)
theorem client_ok {S : WS} {c : Cfg} {K : Nat} (h : S.ok c K) (s : StpI) (i : Nat) : (clientW c S s i).2.ok c (K + 1) := by
  unfold clientW
  split
  · exact entry_ok h s i
  split
  · exact h.more (Nat.le_succ K)
  split
  · split
    · exact h.more (Nat.le_succ K)
    split
    · exact h.more (Nat.le_succ K)
    · refine { h.more (Nat.le_succ K) with ask := fun a => ?_ }
      dsimp only
      rw [upd1_if]
      split
      · have := getD_bounds (h.ask i).2 s.item.toNat
        exact set_bounds (h.ask i) _ _ (by omega)
      · exact h.ask a
  · refine { h.more (Nat.le_succ K) with sh := fun a b => ?_ }
    dsimp only
    rw [upd1_if]
    split
    · rw [upd1_if]
      split
      · exact does_ok (h.sh i _) _
      · exact shf_more (h.sh i b) (by omega)
    · exact shf_more (h.sh a b) (by omega)
theorem step_ok {S : WS} {c : Cfg} {K : Nat} (h : S.ok c K) (hf : configP c = true) (s : StpI) : (stepW c S s).2.ok c (K + 1) := by
  unfold stepW
  split
  · exact tick_ok h hf
  split
  · exact deliver_ok h hf _
  split
  · split
    · exact { h.more (Nat.le_succ K) with }
    · exact h.more (Nat.le_succ K)
  split
  · exact h.more (Nat.le_succ K)
  split
  · exact h.more (Nat.le_succ K)
  · exact client_ok h s _
theorem new_okW {c : Cfg} (hf : configP c = true) : (WS.new c).ok c 0 := by
  obtain ⟨_, _, _, _, _, _, hmi⟩ := config_facts hf
  refine ⟨fun _ _ => new_ok, fun _ => ⟨List.length_replicate, fun z hz => ?_⟩, fun _ => ⟨List.length_replicate, fun z hz => ?_⟩, fun _ => ⟨List.length_replicate, fun q hq => ?_⟩, fun j => ?_, Nat.le_refl _, fun p hp => by cases hp⟩
  · rw [(List.mem_replicate.1 hz).2]; omega
  · rw [(List.mem_replicate.1 hz).2]; omega
  · rw [(List.mem_replicate.1 hq).2]; rfl
  · show (if j < c.m then stockB (BkS.new c.n) (c.mi.zs.getD j 0) else BkS.new c.n).ok c.n ((0 : Nat) : Int)
    split
    · have h1 := new_okB c.n
      have h2 := getD_bounds hmi j
      exact { h1 with res := ⟨by show 0 ≤ 0 + _; omega, by show 0 + _ ≤ 0 + _; omega, by show 0 + _ ≤ _; omega⟩, qs := by show sumL (List.replicate c.n 0) ≤ 0 + _; rw [sumL_rep]; omega }
    · exact new_okB c.n
end
end Go.Proofs.YtbolcebmbpepdaaDoor
