/- Contracts and plain facts, set together by program out of smaller texts. Conditions: none beyond what each theorem states. -/
import Derived.Test.YtbolcebmbpepdaaGreatDoorM39
import Derived.Test.YtbolcebmbpepdaaGreatDoorM01
namespace Go.Proofs.YtbolcebmbpepdaaGreatDoor
set_option linter.unusedVariables false
section
open Go.RowKit
theorem zSa {w : World} {base n : Nat} {e : TypeId} {v : Value} {xs : List Value} (h : w.ownsRow base e 1 v n xs) (hn : 0 < n) : ∃ g cap cs, v = .slice (some ⟨g, 0, none⟩) n cap ∧ base ≤ g ∧ n ≤ cap ∧ Blk w g e cs ∧ ∀ (j : Nat) (u : Value), xs[j]? = some u → cs[j]? = some u := by
 rcases h.2 with ⟨h1, h2⟩ | ⟨g, cap, cur, h1, hb, hh, hnc, hcm, hs, ht⟩
 ·omega
 ·refine ⟨g, cap, cur, h1, hb, hnc, hh, fun j u hj => ?_⟩
  rw [← ht, List.getElem?_take] at hj
  split at hj
  ·simpa using hj
  ·cases hj
def zBz (m : Nat) : Array Value := madeCells #[.int .i64 0, .int .i64 0, .int .i64 0, .slice none 0 0] (m * 4)
theorem yDc (m k : Nat) (hk : k < m) : Has (zBz m) (k * 4) (Shf.new.cells (.slice none 0 0)) := by
 intro j u hj
 have hjl : j < 4 := (List.getElem?_eq_some_iff.1 hj).1
 unfold zBz
 rw [zUg _ _ _ (by simp) (by omega)]
 rw [show (k * 4 + j) % (#[Value.int .i64 0, .int .i64 0, .int .i64 0, .slice none 0 0] : Array Value).size = j by show (k * 4 + j) % 4 = j; omega]
 obtain h | h | h | h : j = 0 ∨ j = 1 ∨ j = 2 ∨ j = 3 := by omega
 all_goals
  subst h
  exact hj
structure BrNew (W : World) (c : Cfg) (B : Nat) (b : BrA) : Prop where
 blk : Blk W b.b 81 #[.slice (some ⟨b.s, 0, none⟩) c.m c.m, .slice (some ⟨b.a, 0, none⟩) c.m c.m, .slice (some ⟨b.g, 0, none⟩) c.m c.m, .slice (some ⟨b.t, 0, none⟩) c.ln c.ln]
 s : Blk W b.s 84 (zBz c.m)
 a : IRow W b.a (List.replicate c.m 0) []
 g : IRow W b.g (List.replicate c.m 0) []
 t : Blk W b.t 103 (zBc c.ln)
 low : B ≤ b.b ∧ B ≤ b.s ∧ B ≤ b.a ∧ B ≤ b.g ∧ B ≤ b.t
 ag : b.a ≠ b.g
def zEy (b : BrA) (i k : Nat) : Tag := if k = b.b then .con else if k = b.s then .sh i else if k = b.a then .ask i else if k = b.g then .gn i else if k = b.t then .str i else .no
structure BG (W : World) (c : Cfg) (y : Lay) (B nb nk : Nat) (vB vK : Value) (ow : Nat → Tag) : Prop where
 blk : Blk W y.hb 72 #[.int .i64 c.br, .slice c.la.A c.la.n c.la.c, .int .i64 c.tk, .slice c.mi.A c.mi.n c.mi.c, .int .i64 c.cap, vB, vK, .pointer (some ⟨y.og, 0, none⟩), .map (some y.lb)]
 oB : W.ownsRow B 76 1 vB nb ((List.range nb).map fun i => Value.pointer (some ⟨(y.br i).b, 0, none⟩))
 oK : W.ownsRow B 73 1 vK nk ((List.range nk).map fun j => Value.pointer (some ⟨y.bg j, 0, none⟩))
 brs : ∀ i, i < nb → Blk W (y.br i).b 81 #[.slice (some ⟨(y.br i).s, 0, none⟩) c.m c.m, .slice (some ⟨(y.br i).a, 0, none⟩) c.m c.m, .slice (some ⟨(y.br i).g, 0, none⟩) c.m c.m, .slice (some ⟨(y.br i).t, 0, none⟩) c.ln c.ln]
 sh : ∀ i, i < nb → ShRow W B (y.br i).s c.m (fun _ => Shf.new) (fun k => ow k = .sh i)
 ask : ∀ i, i < nb → NumRow W B (y.br i).a (List.replicate c.m 0) (fun k => ow k = .ask i)
 gn : ∀ i, i < nb → NumRow W B (y.br i).g (List.replicate c.m 0) (fun k => ow k = .gn i)
 st : ∀ i, i < nb → StRow W B (y.br i).t (List.replicate c.ln []) (fun k => ow k = .str i)
 bk : ∀ j, j < nk → BkRow W B (y.bg j) c.n c.cap c.tk (zIp (BkS.new c.n) (c.mi.zs.getD j 0)) (fun k => ow k = .bk j)
 off : OfRow W B y.og y.ob [] (fun _ _ => 0) 0 (fun k => ow k = .off)
 lst : LsRow W y.lb (fun _ => false) 0 (fun k => ow k = .lst)
 oc : ow y.hb = .con
 ob : ∀ i, i < nb → ow (y.br i).b = .con
 nB : ∀ k, vB.ownBlock = some k → ow k = .no
 nK : ∀ k, vK.ownBlock = some k → ow k = .no
 low : ∀ k, ow k ≠ .no → B ≤ k
 fresh : ∀ k, W.heap.size ≤ k → ow k = .no
 m0 : 0 < c.m
section
variable {W W' : World} {c : Cfg} {y : Lay} {B nb nk : Nat} {vB vK vB' vK' : Value} {ow ow' : Nat → Tag} {D : Nat → Prop}
theorem BG.keep (h : BG W c y B nb nk vB vK ow) (ho : Only D W W') (hD : ∀ k, k < W.heap.size → D k → ow k = .no ∨ k = y.hb) (hw : ∀ k, k < W.heap.size → ow' k = ow k) (hBb : ∀ k, D k → B ≤ k) :
    (∀ i, i < nb → Blk W' (y.br i).b 81 #[.slice (some ⟨(y.br i).s, 0, none⟩) c.m c.m, .slice (some ⟨(y.br i).a, 0, none⟩) c.m c.m, .slice (some ⟨(y.br i).g, 0, none⟩) c.m c.m, .slice (some ⟨(y.br i).t, 0, none⟩) c.ln c.ln]) ∧
    (∀ i, i < nb → ShRow W' B (y.br i).s c.m (fun _ => Shf.new) (fun k => ow' k = .sh i)) ∧ (∀ i, i < nb → NumRow W' B (y.br i).a (List.replicate c.m 0) (fun k => ow' k = .ask i)) ∧ (∀ i, i < nb → NumRow W' B (y.br i).g (List.replicate c.m 0) (fun k => ow' k = .gn i)) ∧
    (∀ i, i < nb → StRow W' B (y.br i).t (List.replicate c.ln []) (fun k => ow' k = .str i)) ∧ (∀ j, j < nk → BkRow W' B (y.bg j) c.n c.cap c.tk (zIp (BkS.new c.n) (c.mi.zs.getD j 0)) (fun k => ow' k = .bk j)) ∧ OfRow W' B y.og y.ob [] (fun _ _ => 0) 0 (fun k => ow' k = .off) ∧ LsRow W' y.lb (fun _ => false) 0 (fun k => ow' k = .lst) := by
 have key : ∀ t : Tag, t ≠ .no → t ≠ .con → (∀ k, k < W.heap.size → ow k = t → ¬ D k) ∧ ∀ k, k < W.heap.size → ow k = t → ow' k = t := fun t h1 h2 => ⟨fun k hk he hd => by
  rcases hD k hk hd with e | e
  ·exact h1 (he.symm.trans e)
  ·rw [e, h.oc] at he
   exact h2 he.symm, fun k hk he => (hw k hk).trans he⟩
 refine ⟨fun i hi => (h.brs i hi).only ho fun hd => ?_, fun i hi => (h.sh i hi).only h.m0 ho (key _ (by simp) (by simp)).1 (key _ (by simp) (by simp)).2, fun i hi => (h.ask i hi).only ho (key _ (by simp) (by simp)).1 (key _ (by simp) (by simp)).2, fun i hi => (h.gn i hi).only ho (key _ (by simp) (by simp)).1 (key _ (by simp) (by simp)).2, fun i hi => (h.st i hi).only ho (key _ (by simp) (by simp)).1 (key _ (by simp) (by simp)).2, fun j hj => (h.bk j hj).only ho (key _ (by simp) (by simp)).1 (key _ (by simp) (by simp)).2, h.off.only ho (key _ (by simp) (by simp)).1 (key _ (by simp) (by simp)).2, h.lst.only ho (key _ (by simp) (by simp)).1 (key _ (by simp) (by simp)).2⟩
 rcases hD _ (h.brs i hi).lt hd with e | e
 ·rw [h.ob i hi] at e; cases e
 ·exact Blk.ne_ (h.brs i hi) h.blk (by decide) e
theorem BG.calm (h : BG W c y B nb nk vB vK ow) (hb : Below W.heap.size W W') : BG W' c y B nb nk vB vK ow := by
 have ho : Only (fun _ => False) W W' := Only.of_below hb (fun x h1 h2 => by omega)
 obtain ⟨k1, k2, k3, k4, k5, k6, k7, k8⟩ := h.keep (ow' := ow) ho (fun k _ e => e.elim) (fun _ _ => rfl) (fun k e => e.elim)
 exact ⟨h.blk.only ho (fun e => e), zAk h.oB ho (fun _ _ e => e), zAk h.oK ho (fun _ _ e => e), k1, k2, k3, k4, k5, k6, k7, k8, h.oc, h.ob, h.nB, h.nK, h.low, fun k hk => h.fresh k (Nat.le_trans ho.size hk), h.m0⟩
theorem zMo {α β : Type} (f : Nat → α) (g : α → β) (n : Nat) (x : α) : (List.range (n + 1)).map (fun i => g (upd1 f n x i)) = (List.range n).map (fun i => g (f i)) ++ [g x] := by
 rw [List.range_succ, List.map_append, List.map_singleton, zDg]
 congr 1
 exact List.map_congr_left fun i hi => by rw [zDl _ _ (by have := List.mem_range.1 hi; omega)]
theorem BG.branch (h : BG W c y B nb nk vB vK ow) (b : BrA) (ho : Only (fun k => k = y.hb ∨ vB.ownBlock = some k) W W') (hb : BrNew W' c W.heap.size b)
    (hblk : Blk W' y.hb 72 #[.int .i64 c.br, .slice c.la.A c.la.n c.la.c, .int .i64 c.tk, .slice c.mi.A c.mi.n c.mi.c, .int .i64 c.cap, vB', vK, .pointer (some ⟨y.og, 0, none⟩), .map (some y.lb)])
    (hoB : W'.ownsRow B 76 1 vB' (nb + 1) ((List.range nb).map (fun i => Value.pointer (some ⟨(y.br i).b, 0, none⟩)) ++ [.pointer (some ⟨b.b, 0, none⟩)])) (hat : ∀ k, vB'.ownBlock = some k → vB.ownBlock = some k ∨ W.heap.size ≤ k) (hBW : B ≤ W.heap.size) :
    BG W' c { y with br := upd1 y.br nb b } B (nb + 1) nk vB' vK (fun k => if k < W.heap.size then ow k else zEy b nb k) := by
 have hw : ∀ k, k < W.heap.size → (fun k => if k < W.heap.size then ow k else zEy b nb k) k = ow k := fun k hk => if_pos hk
 have hnew : ∀ k, W.heap.size ≤ k → (fun k => if k < W.heap.size then ow k else zEy b nb k) k = zEy b nb k := fun k hk => if_neg (Nat.not_lt.2 hk)
 have hD : ∀ k, k < W.heap.size → (k = y.hb ∨ vB.ownBlock = some k) → ow k = .no ∨ k = y.hb := fun k _ hd => by
  rcases hd with e | e
  ·exact .inr e
  ·exact .inl (h.nB k e)
 obtain ⟨k1, k2, k3, k4, k5, k6, k7, k8⟩ := h.keep (ow' := fun k => if k < W.heap.size then ow k else zEy b nb k) ho hD hw (fun k hd => by
  rcases hd with rfl | e
  ·exact h.low _ (by rw [h.oc]; simp)
  ·exact (h.oB.lt k e).1)
 have nsb := Blk.ne_ hb.s hb.blk (by decide)
 have nab := Blk.ne_ hb.a hb.blk (by decide)
 have nas := Blk.ne_ hb.a hb.s (by decide)
 have ngb := Blk.ne_ hb.g hb.blk (by decide)
 have ngs := Blk.ne_ hb.g hb.s (by decide)
 have ntb := Blk.ne_ hb.t hb.blk (by decide)
 have nts := Blk.ne_ hb.t hb.s (by decide)
 have nta := Blk.ne_ hb.t hb.a (by decide)
 have ntg := Blk.ne_ hb.t hb.g (by decide)
 obtain ⟨l1, l2, l3, l4, l5⟩ := hb.low
 have tb : zEy b nb b.b = .con := if_pos rfl
 have ts : zEy b nb b.s = .sh nb := (if_neg nsb).trans (if_pos rfl)
 have ta : zEy b nb b.a = .ask nb := ((if_neg nab).trans (if_neg nas)).trans (if_pos rfl)
 have tg : zEy b nb b.g = .gn nb := (((if_neg ngb).trans (if_neg ngs)).trans (if_neg (Ne.symm hb.ag))).trans (if_pos rfl)
 have tt : zEy b nb b.t = .str nb := ((((if_neg ntb).trans (if_neg nts)).trans (if_neg nta)).trans (if_neg ntg)).trans (if_pos rfl)
 have hm : ∀ {P : Nat → BrA → Prop}, (∀ i, i < nb → P i (y.br i)) → P nb b → ∀ i, i < nb + 1 → P i (upd1 y.br nb b i) := fun h1 h2 i hi => by
  by_cases e : i = nb
  ·subst e; rw [zDg]; exact h2
  ·rw [zDl _ _ e]; exact h1 i (by omega)
 have hsz := ho.size
 have hblt := h.blk.lt
 refine ⟨hblk, ?_, zAk h.oK ho (fun k hk hd => ?_), hm (P := fun i z => Blk W' z.b 81 #[.slice (some ⟨z.s, 0, none⟩) c.m c.m, .slice (some ⟨z.a, 0, none⟩) c.m c.m, .slice (some ⟨z.g, 0, none⟩) c.m c.m, .slice (some ⟨z.t, 0, none⟩) c.ln c.ln]) k1 hb.blk,
  hm (P := fun i z => ShRow W' B z.s c.m (fun _ => Shf.new) (fun k => (if k < W.heap.size then ow k else zEy b nb k) = .sh i)) k2 ⟨⟨zBz c.m, fun _ => .slice none 0 0, fun k hk => ⟨⟨hb.s, yDc _ _ hk, World.ownsRow_nil _ _ _ _⟩, fun q hq => by cases hq⟩, fun k k' _ _ _ q hq => by cases hq⟩, (hnew _ l2).trans ts⟩,
  hm (P := fun i z => NumRow W' B z.a (List.replicate c.m 0) (fun k => (if k < W.heap.size then ow k else zEy b nb k) = .ask i)) k3 ⟨hb.a, by omega, (hnew _ l3).trans ta⟩,
  hm (P := fun i z => NumRow W' B z.g (List.replicate c.m 0) (fun k => (if k < W.heap.size then ow k else zEy b nb k) = .gn i)) k4 ⟨hb.g, by omega, (hnew _ l4).trans tg⟩,
  hm (P := fun i z => StRow W' B z.t (List.replicate c.ln []) (fun k => (if k < W.heap.size then ow k else zEy b nb k) = .str i)) k5 ⟨⟨List.replicate c.ln EnR.nil, ⟨?_, fun r hr => ?_, fun r hr => ?_, by omega⟩, by rw [List.map_replicate]; rfl, fun r hr q hq => ?_⟩, (hnew _ l5).trans tt⟩,
  k6, k7, k8, (hw _ hblt).trans h.oc, hm (P := fun i z => (if z.b < W.heap.size then ow z.b else zEy b nb z.b) = .con) (fun i hi => (hw _ (h.brs i hi).lt).trans (h.ob i hi)) ((hnew _ l1).trans tb), fun k hk => ?_, fun k hk => (hw _ (h.oK.lt k hk).2).trans (h.nK k hk), fun k hk => ?_, fun k hk => ?_, h.m0⟩
 ·exact (congrArg (fun xs => W'.ownsRow B 76 1 vB' (nb + 1) xs) (zMo y.br (fun z : BrA => Value.pointer (some ⟨z.b, 0, none⟩)) nb b)).mpr hoB
 ·rcases hd with rfl | e
  ·exact zAe h.oK h.blk (by decide) hk
  ·rcases zDs h.oK h.oB (by decide) with e1 | e1
   ·rw [e1] at hk; cases hk
   ·exact e1 (by rw [hk, e])
 ·rw [List.map_replicate]
  exact hb.t
 ·rw [(List.mem_replicate.1 hr).2]; exact World.ownsRow_nil _ _ _ _
 ·rw [(List.mem_replicate.1 hr).2]; exact Nat.zero_le _
 ·rw [(List.mem_replicate.1 hr).2] at hq; cases hq
 ·rcases hat k hk with e | e
  ·exact (hw k (h.oB.lt k e).2).trans (h.nB k e)
  ·refine (hnew k e).trans ?_
   have n1 : k ≠ b.b := fun e2 => zAe hoB hb.blk (by decide) (by rw [hk, e2])
   have n2 : k ≠ b.s := fun e2 => zAe hoB hb.s (by decide) (by rw [hk, e2])
   have n3 : k ≠ b.a := fun e2 => zAe hoB hb.a (by decide) (by rw [hk, e2])
   have n4 : k ≠ b.g := fun e2 => zAe hoB hb.g (by decide) (by rw [hk, e2])
   have n5 : k ≠ b.t := fun e2 => zAe hoB hb.t (by decide) (by rw [hk, e2])
   unfold zEy
   rw [if_neg n1, if_neg n2, if_neg n3, if_neg n4, if_neg n5]
 ·by_cases hlt : k < W.heap.size
  ·exact h.low k (by rw [← hw k hlt]; exact hk)
  ·omega
 ·have h1 := hb.blk.lt
  have h2 := hb.s.lt
  have h3 := hb.a.lt
  have h4 := hb.g.lt
  have h5 := hb.t.lt
  refine (hnew k (by omega)).trans ?_
  unfold zEy
  rw [if_neg (by omega), if_neg (by omega), if_neg (by omega), if_neg (by omega), if_neg (by omega)]
theorem BG.book (h : BG W c y B nb nk vB vK ow) (p : BkL) (ho : Only (fun k => k = y.hb ∨ vK.ownBlock = some k) W W') (hb : BkAt W' B c.n p c.cap c.tk (zIp (BkS.new c.n) (c.mi.zs.getD nk 0))) (hp : ∀ k, p.has k → W.heap.size ≤ k)
    (hblk : Blk W' y.hb 72 #[.int .i64 c.br, .slice c.la.A c.la.n c.la.c, .int .i64 c.tk, .slice c.mi.A c.mi.n c.mi.c, .int .i64 c.cap, vB, vK', .pointer (some ⟨y.og, 0, none⟩), .map (some y.lb)])
    (hoK : W'.ownsRow B 73 1 vK' (nk + 1) ((List.range nk).map (fun j => Value.pointer (some ⟨y.bg j, 0, none⟩)) ++ [.pointer (some ⟨p.g, 0, none⟩)])) (hat : ∀ k, vK'.ownBlock = some k → vK.ownBlock = some k ∨ W.heap.size ≤ k) (hBW : B ≤ W.heap.size) :
    BG W' c { y with bg := upd1 y.bg nk p.g } B nb (nk + 1) vB vK' (fun k => if k < W.heap.size then ow k else if k = p.g ∨ k = p.gw ∨ k = p.gg ∨ k = p.gq then .bk nk else .no) := by
 have hw : ∀ k, k < W.heap.size → (fun k => if k < W.heap.size then ow k else if k = p.g ∨ k = p.gw ∨ k = p.gg ∨ k = p.gq then .bk nk else .no) k = ow k := fun k hk => if_pos hk
 have hnew : ∀ k, W.heap.size ≤ k → (fun k => if k < W.heap.size then ow k else if k = p.g ∨ k = p.gw ∨ k = p.gg ∨ k = p.gq then .bk nk else .no) k = if k = p.g ∨ k = p.gw ∨ k = p.gg ∨ k = p.gq then .bk nk else .no := fun k hk => if_neg (Nat.not_lt.2 hk)
 have hD : ∀ k, k < W.heap.size → (k = y.hb ∨ vK.ownBlock = some k) → ow k = .no ∨ k = y.hb := fun k _ hd => by
  rcases hd with e | e
  ·exact .inr e
  ·exact .inl (h.nK k e)
 obtain ⟨k1, k2, k3, k4, k5, k6, k7, k8⟩ := h.keep (ow' := fun k => if k < W.heap.size then ow k else if k = p.g ∨ k = p.gw ∨ k = p.gg ∨ k = p.gq then .bk nk else .no) ho hD hw (fun k hd => by
  rcases hd with rfl | e
  ·exact h.low _ (by rw [h.oc]; simp)
  ·exact (h.oK.lt k e).1)
 have hsz := ho.size
 have hblt := h.blk.lt
 refine ⟨hblk, zAk h.oB ho (fun k hk hd => ?_), ?_, k1, k2, k3, k4, k5, fun j hj => ?_, k7, k8, (hw _ hblt).trans h.oc, fun i hi => (hw _ (h.brs i hi).lt).trans (h.ob i hi), fun k hk => (hw _ (h.oB.lt k hk).2).trans (h.nB k hk), fun k hk => ?_, fun k hk => ?_, fun k hk => ?_, h.m0⟩
 ·rcases hd with rfl | e
  ·exact zAe h.oB h.blk (by decide) hk
  ·rcases zDs h.oB h.oK (by decide) with e1 | e1
   ·rw [e1] at hk; cases hk
   ·exact e1 (by rw [hk, e])
 ·exact (congrArg (fun xs => W'.ownsRow B 73 1 vK' (nk + 1) xs) (zMo y.bg (fun z : Nat => Value.pointer (some ⟨z, 0, none⟩)) nk p.g)).mpr hoK
 ·by_cases e : j = nk
  ·subst e
   show BkRow W' B (upd1 y.bg j p.g j) _ _ _ _ _
   rw [zDg]
   exact ⟨⟨p, rfl, hb, fun k hk => (hnew k (hp k hk)).trans (if_pos hk)⟩⟩
  ·show BkRow W' B (upd1 y.bg nk p.g j) _ _ _ _ _
   rw [zDl _ _ e]
   exact k6 j (by omega)
 ·rcases hat k hk with e | e
  ·exact (hw k (h.oK.lt k e).2).trans (h.nK k e)
  ·refine (hnew k e).trans (if_neg ?_)
   rintro (e2 | e2 | e2 | e2)
   ·exact zAe hoK hb.blk (by decide) (by rw [hk, e2])
   ·exact zAe hoK hb.rw_ (by decide) (by rw [hk, e2])
   ·exact zAe hoK hb.rg (by decide) (by rw [hk, e2])
   ·exact zAe hoK hb.rq (by decide) (by rw [hk, e2])
 ·by_cases hlt : k < W.heap.size
  ·exact h.low k (by rw [← hw k hlt]; exact hk)
  ·omega
 ·have h1 := fun q hq => hb.lt q hq
  refine (hnew k (by omega)).trans (if_neg ?_)
  intro e
  have := h1 k e
  omega
theorem BG.done (h : BG W c y B c.n c.m vB vK ow) (hc : c.ok W B) (hm : zAh c = true) (hBW : B ≤ W.heap.size) : ∃ y' ow', y'.hb = y.hb ∧ PW W c y' (WS.new c) 0 B ow' := by
 obtain ⟨⟨_, hn1, _⟩, _, _, ⟨hm1, _⟩, _⟩ := zAj hm
 obtain ⟨bb, bc, cs, rfl, b1, _, b3, b4⟩ := zSa h.oB (by omega)
 obtain ⟨kb, kc, ds, rfl, d1, _, d3, d4⟩ := zSa h.oK (by omega)
 have nb0 : ow bb = .no := h.nB bb rfl
 have nk0 : ow kb = .no := h.nK kb rfl
 refine ⟨{ y with bb := bb, bc := bc, kb := kb, kc := kc }, fun k => if k = bb ∨ k = kb then .con else ow k, rfl, fun t => ?_, fun k hk => ?_, fun k hk => ?_, hc, hm, hBW⟩
 ·have hw : ∀ t : Tag, t ≠ .no → ∀ k, k < W.heap.size → ow k = t → (if k = bb ∨ k = kb then Tag.con else ow k) = t := fun t ht k _ he => by
   rw [if_neg (fun e => ?_)]
   ·exact he
   ·rcases e with rfl | rfl
    ·exact ht (he.symm.trans nb0)
    ·exact ht (he.symm.trans nk0)
  have hO := Only.refl (fun _ => False) W
  cases t with
  | no => trivial
  | con =>
   refine ⟨h.blk, ⟨cs, b3, fun i hi => b4 i _ (by simp [hi])⟩, ⟨ds, d3, fun j hj => d4 j _ (by simp [hj])⟩, h.brs, hw .con (by simp) _ h.blk.lt h.oc, if_pos (.inl rfl), if_pos (.inr rfl), fun i hi => hw .con (by simp) _ (h.brs i hi).lt (h.ob i hi)⟩
  | sh i => exact fun hi => (h.sh i hi).only h.m0 hO (fun _ _ _ e => e) (hw _ (by simp))
  | ask i => exact fun hi => (h.ask i hi).only hO (fun _ _ _ e => e) (hw _ (by simp))
  | gn i => exact fun hi => (h.gn i hi).only hO (fun _ _ _ e => e) (hw _ (by simp))
  | str i => exact fun hi => (h.st i hi).only hO (fun _ _ _ e => e) (hw _ (by simp))
  | bk j =>
   intro hj
   show BkRow W B (y.bg j) c.n c.cap c.tk (if j < c.m then zIp (BkS.new c.n) (c.mi.zs.getD j 0) else BkS.new c.n) _
   rw [if_pos hj]
   exact (h.bk j hj).only hO (fun _ _ _ e => e) (hw _ (by simp))
  | off => exact h.off.only hO (fun _ _ _ e => e) (hw _ (by simp))
  | lst => exact h.lst.only hO (fun _ _ _ e => e) (hw _ (by simp))
 ·by_cases e : k = bb ∨ k = kb
  ·rcases e with rfl | rfl
   ·exact b1
   ·exact d1
  ·rw [if_neg e] at hk
   exact h.low k hk
 ·have h1 := b3.lt
  have h2 := d3.lt
  rw [if_neg (by omega)]
  exact h.fresh k hk
end
end
end Go.Proofs.YtbolcebmbpepdaaGreatDoor
