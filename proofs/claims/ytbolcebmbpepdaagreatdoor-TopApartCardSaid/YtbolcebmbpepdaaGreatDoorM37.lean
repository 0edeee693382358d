/- Contracts and plain facts, set together by program out of smaller texts. Conditions: none beyond what each theorem states. -/
import Derived.Test.YtbolcebmbpepdaaGreatDoorM36
import Derived.Test.YtbolcebmbpepdaaGreatDoorM23
import Derived.Test.YtbolcebmbpepdaaGreatDoorM34
namespace Go.Proofs.YtbolcebmbpepdaaGreatDoor
set_option linter.unusedVariables false
section
open Go.RowKit
def tolF (p : PoD) (A : Option Addr) (n cc : Nat) : Tol := ⟨⟨0, p.to_, ⟨0, 0, 0, 0, 0⟩, 0, [], p.data, []⟩, none, 0, 0, A, n, cc, none, 0, 0⟩
structure DelAt (w : World) (c : Cfg) (y : Lay) (S' : WS) (K base : Nat) (ow : Nat → Tag) (q b : Nat) (p : PoD) (A : Option Addr) (n cc : Nat) (W : World) (ow' : Nat → Tag) : Prop where
 pw : PW W c y S' K base ow'
 kept : Kept w W ow ow'
 qn : ow' q = .no
 bn : ow' b = .no
 qk : Blk W q 57 (tol0 0 0).cells.toArray
 bk : Blk W b 57 (tolF p A n cc).cells.toArray
 row : W.ownsRow w.heap.size 5 1 (.slice A n cc) n (p.data.map (.int .u8))
 rn : ∀ k, (Value.slice A n cc).ownBlock = some k → ow' k = .no
 rq : ∀ k, (Value.slice A n cc).ownBlock = some k → k ≠ q
theorem DelAt.turn {w W W' : World} {c : Cfg} {y : Lay} {S1 S2 : WS} {K base q b n cc : Nat} {ow ow1 ow2 : Nat → Tag} {p : PoD} {A : Option Addr} (h : DelAt w c y S1 K base ow q b p A n cc W ow1) (hp : PW W' c y S2 K base ow2) (hk : Kept W W' ow1 ow2) : DelAt w c y S2 K base ow q b p A n cc W' ow2 :=
 ⟨hp, h.kept.trans hk, (hk.old q h.qk.lt).trans h.qn, (hk.old b h.bk.lt).trans h.bn, hk.blk h.qk h.qn, hk.blk h.bk h.bn, hk.own h.row h.rn, fun k hk' => (hk.old k (h.row.lt k hk').2).trans (h.rn k hk'), h.rq⟩
theorem DelAt.calm {w W W' : World} {c : Cfg} {y : Lay} {S1 : WS} {K base q b n cc : Nat} {ow ow1 : Nat → Tag} {p : PoD} {A : Option Addr} (h : DelAt w c y S1 K base ow q b p A n cc W ow1) (hb : Below W.heap.size W W') : DelAt w c y S1 K base ow q b p A n cc W' ow1 :=
 h.turn (h.pw.calm hb) (Kept.calm hb)
theorem DelAt.fin {w W W' : World} {c : Cfg} {y : Lay} {S1 : WS} {K base q b n cc : Nat} {ow ow1 : Nat → Tag} {p : PoD} {A : Option Addr} (h : DelAt w c y S1 K base ow q b p A n cc W ow1) (ho : Only (fun k => k = q) W W') (hq : q = w.heap.size) (hbw : base ≤ w.heap.size) {r : TolD × WS} (hr : r = (⟨0, p.to_, Stk.none, 0, [], p.data, []⟩, S1)) : zBo w c y K base ow r (.returned (tolF p A n cc).val) W' := by
 subst hr
 refine ⟨tolF p A n cc, rfl, rfl, ⟨World.ownsRow_nil _ _ _ _, zAk h.row ho (fun k hk e => h.rq k hk e), World.ownsRow_nil _ _ _ _⟩, ow1, h.pw.own ho h.qn (by omega), ⟨h.kept.only.trans ho (fun x hx e => by omega), h.kept.old⟩, fun v hv k hk => ?_⟩
 rcases hv with rfl | rfl | rfl
 ·cases hk
 ·exact h.rn k hk
 ·cases hk
def zPv (l : List Int) (W : World) (ow' : Nat → Tag) (v : Value) : Prop := ∃ A n c b0, v = .slice A n c ∧ l.length = n ∧ W.ownsRow b0 3 1 (.slice A n c) n (l.map (.int .i64)) ∧ ∀ k, (Value.slice A n c).ownBlock = some k → ow' k = .no
theorem zZn (S : WS) (fr : Nat) (l : List Int) (k : Nat) : S.wants fr l (k + 1) = { S.wants fr l k with bk := upd1 (S.wants fr l k).bk k (zEs ((S.wants fr l k).bk k) fr (l.getD k 0)) } := by
 have hk : (S.wants fr l k).bk k = S.bk k := if_neg (Nat.lt_irrefl k)
 have h : (S.wants fr l (k + 1)).bk = upd1 (S.wants fr l k).bk k (zEs ((S.wants fr l k).bk k) fr (l.getD k 0)) := by
  funext j
  rw [hk, zCe]
  show (if j < k + 1 then zEs (S.bk j) fr (l.getD j 0) else S.bk j) = if j = k then _ else (if j < k then zEs (S.bk j) fr (l.getD j 0) else S.bk j)
  by_cases h1 : j = k
  ·subst h1; rw [if_pos (by omega), if_pos rfl]
  ·rw [if_neg h1]
   by_cases h2 : j < k
   ·rw [if_pos (by omega), if_pos h2]
   ·rw [if_neg (by omega), if_neg h2]
 show WS.mk _ _ _ _ _ _ _ _ = _
 rw [← h]
 rfl
theorem yAj (S : WS) (fr : Nat) (l : List Int) : S.wants fr l 0 = S := by
 show WS.mk _ _ _ _ _ _ _ _ = S
 simp
def TabAt (t : TabR) (W : World) (ow' : Nat → Tag) : Prop := ∃ B, zYx B W t ∧ (∀ g, t.A = some ⟨g, 0, none⟩ → t.rs ≠ [] → ow' g = .no) ∧ ∀ r ∈ t.rs, ∀ k, r.val.ownBlock = some k → ow' k = .no
theorem TabAt.turn {t : TabR} {W W' : World} {ow1 ow2 : Nat → Tag} (h : TabAt t W ow1) (hk : Kept W W' ow1 ow2) : TabAt t W' ow2 := by
 obtain ⟨B, ⟨h3, h4⟩, h5, h6⟩ := h
 refine ⟨B, ⟨?_, fun r hr => hk.own (h4 r hr) (h6 r hr)⟩, fun g hg hne => ?_, fun r hr k hk' => (hk.old k ((h4 r hr).lt k hk').2).trans (h6 r hr k hk')⟩
 ·rcases h3 with h3 | ⟨g, g1, g2, g3⟩
  ·exact Or.inl h3
  ·by_cases hne : t.rs = []
   ·exact Or.inl hne
   ·exact Or.inr ⟨g, g1, g2, hk.blk g3 (h5 g g2 hne)⟩
 ·rcases h3 with h3 | ⟨g', g1, g2, g3⟩
  ·exact absurd h3 hne
  ·rw [hg] at g2
   cases g2
   exact (hk.old _ g3.lt).trans (h5 _ hg hne)
def TabCut (R : List (List Ent)) (W : World) (ow' : Nat → Tag) (v : Value) : Prop := ∃ t : TabR, v = t.val ∧ t.es = R ∧ TabAt t W ow'
theorem zYh (S : WS) (i : Nat) (R : List (List Ent)) (k : Nat) (es : List Ent) (hk : R.getD k [] = es) : S.learns i R (k + 1) = { S.learns i R k with st := upd1 (S.learns i R k).st i (((S.learns i R k).st i).set k (zCz (((S.learns i R k).st i).getD k []) es).1) } := by
 unfold WS.learns
 dsimp only
 rw [zDg, yDe, zEa, hk]
theorem zYl (S : WS) (i : Nat) (R : List (List Ent)) : S.learns i R 0 = S := by
 unfold WS.learns
 rw [zEa, yCi]
def zGv (a : Nat) : OT := .next a (.next (a + 1) (.fork (.next (a + 2) (.fork (.next (a + 3) (.next (a + 4) (.next (a + 5) .done))) (.next (a + 4) (.next (a + 3) (.next (a + 5) .done))))) (.next (a + 3) (.next (a + 2) (.next (a + 4) (.next (a + 5) .done))))))
def treeD : OT := .next 7 (.next 8 (.fork (.next 9 (.fork (.next 10 (.next 11 (.next 12 .done))) (.next 11 (.fork (.next 10 (.next 12 .done)) (.next 12 (.next 10 .done)))))) (.next 10 (.next 9 (.next 11 (.next 12 .done))))))
def DelR (hb b : Nat) (og : Nat) (to_ : Int) (W : World) : Prop := W.cell? ⟨hb, 7, none⟩ = some (.pointer (some ⟨og, 0, none⟩)) ∧ W.cell? ⟨b, 1, none⟩ = some (.int .i64 to_)
section
variable {w : World} {c : Cfg} {y : Lay} {S : WS} {K base : Nat} {ow : Nat → Tag}
set_option maxRecDepth 100000 in
set_option maxHeartbeats 4000000 in
theorem zVr (h : PW w c y S K base ow) (N : Nat) (hS : S.ok c N) (hN : N ≤ 10000) (hK : K < 1000000) (id : Int) (hwf : (Lit.int .i64 id).wf = true) (hd : dueW S id = 0) :
    Calls Tryz.prog 64 #[.pointer (some ⟨y.hb, 0, none⟩), .int .i64 id] w (zBo w c y (K + 1) base ow (zCj c S id)) := by
 obtain ⟨k, p, hik, hp, hto0, hold, htp⟩ := due_zero hd
 subst hik
 obtain ⟨⟨hcn, hn1, hn8⟩, _⟩ := zAj h.may
 obtain ⟨hf, ht, hdt, hft⟩ := hS.lts p (List.mem_of_getElem? hp)
 have HE := hide (show zCj c S k = (⟨0, p.to_, Stk.none, 0, [], p.data, []⟩, zFd c (S.opened p k) p) by
  unfold zCj
  rw [if_neg (by rw [hd]; decide), Int.toNat_natCast, hp]
  dsimp only
  rw [if_neg (by rw [hd]; decide)])
 obtain ⟨f, hpf⟩ : ∃ f : Nat, p.fr = f := ⟨p.fr.toNat, by omega⟩
 obtain ⟨i, hpt⟩ : ∃ i : Nat, p.to_ = i := ⟨p.to_.toNat, by omega⟩
 have HCN := hide hcn
 have hb8 : f ≤ 8 ∧ i ≤ 8 := by omega
 have HFT := hide (show (f = c.n → i < c.n) ∧ f ≤ c.n ∧ i ≤ c.n by omega)
 have HPF := hide hpf
 have HPT := hide hpt
 have HDT := hide hdt
 have hwt : (Lit.int .i64 p.to_).wf = true := WalkArith.wf_i64 (by omega)
 obtain ⟨q, hq⟩ : ∃ q, q = w.heap.size := ⟨_, rfl⟩
 obtain ⟨wx, hwx⟩ : ∃ wx, wx = w.alloc (.cells (tol0 0 0).cells.toArray 57) := ⟨_, rfl⟩
 have hbx : Below w.heap.size w wx := by rw [hwx]; exact (Below.refl _ _).alloc (Nat.le_refl _) _
 have kq : Blk wx q 57 (tol0 0 0).cells.toArray := by rw [hwx, hq]; exact Blk.new _ _ _
 have hx := h.calm hbx
 have hlen : S.lts.length ≤ 1000000 := by have := hS.len; omega
 have HNO := hide (fun e W => zCi e W)
 unfold tol0 zAy Tol.val Stk.none at HNO
 dsimp only at HNO
 have HDU := hide (zOa hx k hwf hlen)
 have HX := hide hx
 have HKQ := hide kq
 have HBX := hide hbx
 have HQ := hide hq
 have HH := hide h
 have HWX := hide hwx
 have HNQ := hide (show ow q = .no from h.fresh q (by omega))
 obtain ⟨⟨v, ps, m, hof, _, hps, _, _⟩, _, _⟩ := h.pc .off
 have hpl : ps.length = S.lts.length := by rw [← hps, List.length_map]
 have HTO := hide (fun W (hW : Below w.heap.size w W) => zHt base y.og y.ob m v ps S.top W k (hof.calm hW) (by omega))
 rw [hps, htp] at HTO
 have HOP := hide (fun W (hW : Below w.heap.size w W) => zPy (h.calm hW) hlen hK k p hp hto0 hold hwt)
 rw [hd] at HDU
 have HS := hide hS
 have HPK := hide hp
 clear hx kq hbx hq h hwx hd hof hps hpl htp hS hp hpf hpt hdt hcn hf ht hft
 go_enter Tryz.func64, Tryz.ntmps64
 go_upto_region 1 with fail
 rw [show (#[.int .i64 0, .int .i64 0, .int .i64 0, .int .i64 0, .int .i64 0, .int .i64 0, .int .i64 0, .int .i64 0, .slice none 0 0, .slice none 0 0, .slice none 0 0] : Array Value) = (tol0 0 0).cells.toArray from rfl, ← zAa HWX, ← zAa HQ]
 go_wp2_with fail
 refine (zAa HDU).mono ?_
 rintro _ w2 ⟨rfl, hb2⟩
 have HK2 := hide ((zAa HKQ).below hb2 (zAa HKQ).lt)
 have HB2 := hide ((zAa HBX).trans (hb2.mono (zAa HBX).size))
 have HX2 := hide ((zAa HX).calm hb2)
 clear hb2
 have c7 := ((zAa HX2).pc .con).blk.cell 7
 go_upto_region 4 with fail
 go_wp2_with fail
 refine (zAa HTO w2 (zAa HB2)).mono ?_
 rintro _ _ ⟨rfl, rfl⟩
 go_upto_region 5 with fail
 obtain ⟨w3, hw3⟩ : ∃ w3, w3 = w2.alloc (.cells ((⟨⟨0, p.to_, ⟨0, 0, 0, 0, 0⟩, 0, [], [], []⟩, none, 0, 0, none, 0, 0, none, 0, 0⟩ : Tol)).cells.toArray 57) := ⟨_, rfl⟩
 obtain ⟨b3, hb3⟩ : ∃ b3, b3 = w2.heap.size := ⟨_, rfl⟩
 have kb : Blk w3 b3 57 ((⟨⟨0, p.to_, ⟨0, 0, 0, 0, 0⟩, 0, [], [], []⟩, none, 0, 0, none, 0, 0, none, 0, 0⟩ : Tol)).cells.toArray := by rw [hw3, hb3]; exact Blk.new _ _ _
 have hbl : Below w2.heap.size w2 w3 := by rw [hw3]; exact (Below.refl _ _).alloc (Nat.le_refl _) _
 rw [show (#[.int .i64 0, .int .i64 p.to_, .int .i64 0, .int .i64 0, .int .i64 0, .int .i64 0, .int .i64 0, .int .i64 0, .slice none 0 0, .slice none 0 0, .slice none 0 0] : Array Value) = ((⟨⟨0, p.to_, ⟨0, 0, 0, 0, 0⟩, 0, [], [], []⟩, none, 0, 0, none, 0, 0, none, 0, 0⟩ : Tol)).cells.toArray from rfl, ← hw3, ← hb3]
 have HK3 := hide ((zAa HK2).below hbl (zAa HK2).lt)
 have HB3 := hide ((zAa HB2).trans (hbl.mono (zAa HB2).size))
 have HX3 := hide ((zAa HX2).calm hbl)
 have HKB := hide kb
 have HLB := hide (show w2.heap.size ≤ b3 by omega)
 have HBQ := hide (show q ≠ b3 from fun e => by have := (zAa HK2).lt; omega)
 have HBN := hide (show ow b3 = .no from (zAa HX2).fresh b3 (by omega))
 clear hw3 hb3 kb hbl c7
 go_upto_region 7 with fail
 go_cut [36] (fun s36 W => ∃ A n cc ow', Hid (DelAt w c y (S.opened p k) (K + 1) base ow q b3 p A n cc W ow'))
 case first =>
  have hR3 : DelR y.hb b3 y.og p.to_ w3.drew := ⟨((zAa HX3).pc .con).blk.cell 7, (zAa HKB).cell 1⟩
  have t0 := fun n : HasR (DelR y.hb b3 y.og p.to_) => n.h.1
  have t1 := fun n : HasR (DelR y.hb b3 y.og p.to_) => n.h.2
  haveI hne : Nonempty (HasR (DelR y.hb b3 y.og p.to_)) := ⟨⟨_, hR3⟩⟩
  refine zFa (C := fun w' => ∃ n : HasR (DelR y.hb b3 y.og p.to_), w' = n.W) [0, 1, 2, 3, 4, 5, 6] [7, 8, 9, 10, 11, 12] treeD (by kernel_rfl) (by kernel_rfl) (by intro c a d v w h; cases d <;> exact h) ⟨⟨_, hR3⟩, rfl⟩ ?_
  simp only [zAb, List.map_cons, List.map_nil, List.getD_cons_zero, List.getD_cons_succ]
  repeat (go_big_quiet_step (fail))
  refine wpQuiet_nil ?_
  have hd0 : Below w3.heap.size w3 w3.drew := (Below.refl _ w3).drew
  have hXd := (zAa HX3).calm hd0
  have hQd := (zAa HK3).below hd0 (zAa HK3).lt
  have hKd := (zAa HKB).below hd0 (zAa HKB).lt
  have hBd := (zAa HB3).trans (hd0.mono (zAa HB3).size)
  generalize w3.drew = wd at hd0 hXd hQd hKd hBd hR3 ⊢
  clear t0 t1 hR3
  unfold treeD
  refine zAc fun K0 hK0 => ?_
  simp only [zAb, List.map_cons, List.map_nil, List.getD_cons_zero, List.getD_cons_succ]
  go_wp2_with fail
  refine (zAa HOP wd hBd).mono ?_
  rintro _ w5 ⟨A, n, cc, ow5, rfl, hr5, hp5, hk5, hn5⟩
  have hkk : Kept w w5 ow ow5 := (Kept.calm hBd).trans hk5
  have hQ5 := hk5.blk hQd (zAa HNQ)
  have hK5 := hk5.blk hKd (zAa HBN)
  have hqn : ow5 q = .no := (hk5.old q hQd.lt).trans (zAa HNQ)
  have hbn : ow5 b3 = .no := (hk5.old b3 hKd.lt).trans (zAa HBN)
  have hrl : ∀ k', (Value.slice A n cc).ownBlock = some k' → k' ≠ b3 := fun k' hk' e => by have := (hr5.lt k' hk').1; have := hKd.lt; omega
  have hR5 : DelR y.hb b3 y.og p.to_ w5 := ⟨(hp5.pc .con).blk.cell 7, hK5.cell 1⟩
  go_wp2_with fail
  refine hK0 _ w5 (fun _ => ⟨⟨_, hR5⟩, rfl⟩) ?_
  clear hK0 K0
  have x9 : w5.cell? ⟨b3, 9, none⟩ = some (.slice none 0 0) := hK5.cell 9
  have y9 := hK5.frozen 9
  have hbw : w.heap.size ≤ b3 := Nat.le_trans (zAa HB2).size (zAa HLB)
  have ho9 : Only (fun k => k = b3) w5 (w5.setCell ⟨b3, 9, none⟩ (.slice A n cc)) := zAg (Only.refl _ w5) 9 _
  have hA := hide (show DelAt w c y (S.opened p k) (K + 1) base ow q b3 p A n cc (w5.setCell ⟨b3, 9, none⟩ (.slice A n cc)) ow5 from
   ⟨hp5.own ho9 hbn (Nat.le_trans (zAa HH).bw hbw), ⟨hkk.only.trans ho9 (fun x hx e => by omega), hkk.old⟩, hqn, hbn, hQ5.only ho9 (fun e => zAa HBQ e), hK5.set_ 9 _, zBr (zAk hr5 ho9 (fun g hg e => hrl g hg e)) hBd.size, hn5, fun k' hk' e => by have := (hr5.lt k' hk').1; have := hQd.lt; omega⟩)
  have hR9 : DelR y.hb b3 y.og p.to_ (w5.setCell ⟨b3, 9, none⟩ (.slice A n cc)) := ⟨((zAa hA).pw.pc .con).blk.cell 7, (zAa hA).bk.cell 1⟩
  clear hp5 hk5 hr5 hn5 hQ5 hK5 hkk hqn hbn hrl hXd hQd hKd hBd hd0 ho9 hbw
  have HA := hA
  have hcut : ∃ A' n' cc' ow', Hid (DelAt w c y (S.opened p k) (K + 1) base ow q b3 p A' n' cc' (w5.setCell ⟨b3, 9, none⟩ (.slice A n cc)) ow') := ⟨A, n, cc, ow5, hA⟩
  have HCUT := hide hcut
  clear hA hcut
  repeat' (first
   | (refine zAm ?_ ?_)
   | (refine zBg ?_; go_wp2_with (fail); go_meet; exact zAa HCUT)
   | (refine zAc fun K0 hK0 => ?_; simp only [zAb, List.map_cons, List.map_nil, List.getD_cons_zero, List.getD_cons_succ]; go_wp2_with (fail); refine hK0 _ w5 (fun _ => ⟨⟨_, hR5⟩, rfl⟩) ?_; clear hK0 K0)
   | (refine zAc fun K0 hK0 => ?_; simp only [zAb, List.map_cons, List.map_nil, List.getD_cons_zero, List.getD_cons_succ]; go_wp2_with (fail); refine hK0 _ (w5.setCell ⟨b3, 9, none⟩ (.slice A n cc)) (fun _ => ⟨⟨_, hR9⟩, rfl⟩) ?_; clear hK0 K0))
 case rest =>
  obtain ⟨A, n, cc, owc, HD⟩ := hcut
  have hcb := ((zAa HD).pw.pc .con).blk
  have c7 : wc.cell? ⟨y.hb, 7, none⟩ = some (.pointer (some ⟨y.og, 0, none⟩)) := hcb.cell 7
  have c0 : wc.cell? ⟨y.hb, 0, none⟩ = some (.int .i64 c.br) := hcb.cell 0
  have b1 : wc.cell? ⟨b3, 1, none⟩ = some (.int .i64 (i : Int)) := by rw [← zAa HPT]; exact (zAa HD).bk.cell 1
  obtain ⟨⟨vo, pso, mo, hofo, _, hpso, _, _⟩, _, _⟩ := (zAa HD).pw.pc .off
  obtain ⟨po, hpo, hpod⟩ : ∃ po, pso[k]? = some po ∧ po.d = p := by
   have h1 := zAa HPK
   rw [show S.lts = (S.opened p k).lts from rfl, ← hpso, List.getElem?_map] at h1
   cases hx : pso[k]? with
   | none => rw [hx] at h1; cases h1
   | some x => rw [hx] at h1; exact ⟨x, rfl, Option.some.inj h1⟩
  have HFR := hide (zRr base y.og y.ob mo vo pso (S.opened p k).top wc k po hofo hpo)
  rw [hpod, zAa HPF] at HFR
  clear hcb hofo hpso hpo hpod
  go_upto_region 8 with fail
  go_wp2_with fail
  refine (zAa HFR).mono ?_
  rintro _ _ ⟨rfl, rfl⟩
  by_cases hto : (i : Int) = c.br
  ·have a1 : ((i : Int) == c.br) = true := by simpa using hto
   have HC := hide (show zFd c (S.opened p k) p = (S.opened p k).wants f (zAp c p.data).1 (zAp c p.data).1.length by
    unfold zFd
    rw [if_pos (by rw [zAa HPT]; exact hto), zAa HPF, Int.toNat_natCast])
   go_upto_region 15 with fail
   go_quiet (fail)
   have HD2 := hide ((zAa HD).calm (below_drewN (Below.refl _ wc) nq))
   generalize wc.drewN nq = w2c at HD2 ⊢
   clear c7 c0 b1
   go_upto_region 16 with fail
   go_cut [8] (fun s8 W => Hid (∃ owd, DelAt w c y (S.opened p k) (K + 1) base ow q b3 p A n cc W owd ∧ zPv (zAp c p.data).1 W owd s8))
   case first =>
    have hD := zAa HD2
    have hcb := (hD.pw.pc .con).blk
    have e0 := fun m : Ext w2c => m.cell (show w2c.cell? ⟨y.hb, 0, none⟩ = some (.int .i64 c.br) from hcb.cell 0)
    have e1 := fun m : Ext w2c => m.cell (show w2c.cell? ⟨y.hb, 1, none⟩ = some (.slice c.la.A c.la.n c.la.c) from hcb.cell 1)
    have e2 := fun m : Ext w2c => m.cell (show w2c.cell? ⟨y.hb, 2, none⟩ = some (.int .i64 c.tk) from hcb.cell 2)
    have e3 := fun m : Ext w2c => m.cell (show w2c.cell? ⟨y.hb, 3, none⟩ = some (.slice c.mi.A c.mi.n c.mi.c) from hcb.cell 3)
    have e4 := fun m : Ext w2c => m.cell (show w2c.cell? ⟨y.hb, 4, none⟩ = some (.int .i64 c.cap) from hcb.cell 4)
    have e9 := fun m : Ext w2c => m.cell (show w2c.cell? ⟨b3, 9, none⟩ = some (.slice A n cc) from hD.bk.cell 9)
    have hcaps := zCx hD.row
    have hdl : p.data.length = n := by have := (Reads.of_own hD.row).1; simpa using this
    have HAK := hide (fun W (hW : Below w2c.heap.size w2c W) => zSj c A n cc p.data W.heap.size W ((hD.calm hW).pw.cfg.more (hD.calm hW).pw.bw) hdl hcaps.2.1 hcaps.2.2 (Reads.of_own (hD.calm hW).row) (zAa HDT) (Nat.le_refl _))
    clear hD hcb hcaps hdl
    unfold Cfg.val zGf at HAK
    refine zBt [0, 1, 2, 3, 4, 5] [6, 7, 8, 9, 10, 11] (zGv 6) (by kernel_rfl) (by kernel_rfl) (by intro c a d v w h; cases d <;> exact h) ?_
    simp only [zAb, List.map_cons, List.map_nil, List.getD_cons_zero, List.getD_cons_succ]
    repeat (go_big_quiet_step (fail))
    refine wpQuiet_nil ?_
    clear e0 e1 e2 e3 e4 e9
    have hd0 : Below w2c.heap.size w2c w2c.drew := (Below.refl _ w2c).drew
    generalize w2c.drew = wd at hd0 ⊢
    unfold zGv
    refine zAc fun K0 hK0 => ?_
    simp only [zAb, List.map_cons, List.map_nil, List.getD_cons_zero, List.getD_cons_succ]
    go_wp2_with fail
    refine (zAa HAK wd hd0).mono ?_
    rintro _ w5 ⟨v5, rfl, ho5, hb5⟩
    have hd5 := hd0.trans (hb5.mono hd0.size)
    have hD5 := (zAa HD2).calm hd5
    obtain ⟨A5, c5, rfl, _⟩ := zAf ho5
    have HCUT := hide (show Hid (∃ owd, DelAt w c y (S.opened p k) (K + 1) base ow q b3 p A n cc w5 owd ∧ zPv (zAp c p.data).1 w5 owd (.slice A5 (zAp c p.data).1.length c5)) from hide ⟨_, hD5, A5, _, c5, _, rfl, rfl, ho5, fun k' hk' => ((zAa HD2).calm hd0).pw.fresh k' (ho5.lt k' hk').1⟩)
    generalize (zAp c p.data).2 = cd at HAK ⊢
    generalize (zAp c p.data).1.length = n5 at HCUT ⊢
    clear ho5 hb5 hD5 hd0
    go_wp2_with fail
    refine hK0 _ w5 (fun _ => ⟨⟨_, hd5⟩, rfl⟩) ?_
    clear hK0 K0
    repeat' (first
     | (refine zAm ?_ ?_)
     | (refine zBg ?_; go_wp2_with (fail); go_meet; exact zAa HCUT)
     | (refine zAc fun K0 hK0 => ?_; simp only [zAb, List.map_cons, List.map_nil, List.getD_cons_zero, List.getD_cons_succ]; go_wp2_with (fail); refine hK0 _ w5 (fun _ => ⟨⟨_, hd5⟩, rfl⟩) ?_; clear hK0 K0))
   case rest =>
    obtain ⟨owd, hD0, A5, n5, c5, b5, rfl, hl5, hr5, hn5⟩ := zAa hcut
    obtain ⟨hv5, hlen5⟩ := zKp c p.data
    have hm3 := (zAj (zAa HH).may).2.2.2.1
    have HV5 := hide hv5
    have HL5 := hide hl5
    have HN5 := hide (show n5 ≤ c.m by omega)
    have HS0 := hide (show (∃ owr, DelAt w c y ((S.opened p k).wants f (zAp c p.data).1 0) (K + 1) base ow q b3 p A n cc wc owr ∧ wc.ownsRow b5 3 1 (.slice A5 n5 c5) n5 ((zAp c p.data).1.map (.int .i64)) ∧ ∀ g, (Value.slice A5 n5 c5).ownBlock = some g → owr g = .no) from ⟨owd, by rw [yAj]; exact hD0, hr5, hn5⟩)
    have HFN := hide (show f < c.n by have h1 := zAa HFT; have h2 := zAa HCN; omega)
    have HBW := hide (fun j => ((zAa HS).bk j).lw)
    rw [hl5] at HC
    generalize (zAp c p.data).1 = L at HV5 HL5 HS0 HC
    clear hD0 hl5 hr5 hn5 hv5 hlen5 hto
    have hn5i := zAa HN5
    go_wp2_with fail
    go_loopw [110] (fun j W => ∃ m5 : Nat, m5 ≤ n5 ∧ j = .int .i64 m5 ∧ Hid (∃ owr, DelAt w c y ((S.opened p k).wants f L m5) (K + 1) base ow q b3 p A n cc W owr ∧ W.ownsRow b5 3 1 (.slice A5 n5 c5) n5 (L.map (.int .i64)) ∧ ∀ g, (Value.slice A5 n5 c5).ownBlock = some g → owr g = .no)) (fun j _ => n5 - (intOf j).toNat)
    case atStart => exact ⟨0, Nat.zero_le _, rfl, HS0⟩
    case round =>
     obtain ⟨m5, hm5, rfl, HR⟩ := hrel
     by_cases hlt : m5 < n5
     ·obtain ⟨owr, hDr, hrr, hnr⟩ := zAa HR
      have hlt' : (m5 : Int) < (n5 : Int) := by omega
      obtain ⟨bl, ol, z, hA5, _, hz, hcz⟩ := zDd (Reads.of_own hrr) hlt
      subst hA5
      have hcon := hDr.pw.pc .con
      obtain ⟨ks, hks, hkc⟩ := hcon.bks
      have x6 : wr.cell? ⟨y.hb, 6, none⟩ = some (.slice (some ⟨y.kb, 0, none⟩) c.m y.kc) := hcon.blk.cell 6
      have x7 : wr.cell? ⟨y.kb, m5, none⟩ = some (.pointer (some ⟨y.bg m5, 0, none⟩)) := (hks.cell m5).trans (hkc m5 (by omega))
      have hmm : (m5 : Int) < (c.m : Int) := by omega
      have hlw : (((S.opened p k).wants f L m5).bk m5).wants.length = c.n := by
       rw [show ((S.opened p k).wants f L m5).bk m5 = S.bk m5 from if_neg (Nat.lt_irrefl m5)]
       exact zAa HBW m5
      have HWA := hide (zTl hDr.pw m5 f z (by omega) (zAa HFN) hlw)
      have HGZ := hide (show L.getD m5 0 = z by rw [List.getD_eq_getElem?_getD, hz]; rfl)
      have HDR := hide hDr
      have HRR := hide hrr
      have HNR := hide hnr
      clear hDr hrr hnr hz hcon hks hkc hlw
      go_upto_region 20 with fail
      go_wp2_with fail
      refine (zAa HWA).mono ?_
      rintro _ w7 ⟨rfl, ow7, hp7, hk7⟩
      have HNX := hide (show (∃ owr, DelAt w c y ((S.opened p k).wants f L (m5 + 1)) (K + 1) base ow q b3 p A n cc w7 owr ∧ w7.ownsRow b5 3 1 (.slice (some ⟨bl, ol, none⟩) n5 c5) n5 (L.map (.int .i64)) ∧ ∀ g, (Value.slice (some ⟨bl, ol, none⟩) n5 c5).ownBlock = some g → owr g = .no) from
       ⟨ow7, (zAa HDR).turn (by rw [zZn, zAa HGZ]; exact hp7) hk7, hk7.own (zAa HRR) (zAa HNR), fun g hg => (hk7.old g ((zAa HRR).lt g hg).2).trans (zAa HNR g hg)⟩)
      clear hp7 hk7 x6 x7 hcz
      go_wp2_with fail
      refine ⟨⟨m5 + 1, by omega, by go_num, HNX⟩, by simp [intOf]; omega⟩
     ·obtain rfl : m5 = n5 := by omega
      obtain ⟨owr, hDr, _, _⟩ := zAa HR
      have HDR := hide hDr
      obtain ⟨z0, z1, z2, z3, z4, z5, z6, z7, z8, z9, z10⟩ := zAt (zAa HDR).bk
      unfold tolF at z0 z1 z2 z3 z4 z5 z6 z7 z8 z9 z10
      dsimp only at z0 z1 z2 z3 z4 z5 z6 z7 z8 z9 z10
      have HKQ9 := hide hDr.qk
      clear hDr
      obtain ⟨g0, g1, g2, g3, g4, g5, g6, g7, g8, g9, g10⟩ := zBl (zAa HKQ9)
      obtain ⟨f0, f1, f2, f3, f4, f5, f6, f7, f8, f9, f10⟩ := zBi (zAa HKQ9)
      go_wp2_with fail
      change bodyPost _ _ _ _ _ (wrT wr q (tolF p A n cc))
      have k9 := zCc (zAa HKQ9) rfl (tolF p A n cc)
      have HO9 := hide (zBk wr q (tolF p A n cc))
      clear g0 g1 g2 g3 g4 g5 g6 g7 g8 g9 g10 f0 f1 f2 f3 f4 f5 f6 f7 f8 f9 f10
      generalize wrT wr q (tolF p A n cc) = w9 at k9 HO9 ⊢
      obtain ⟨d0, d1, d2, d3, d4, d5, d6, d7, d8, d9, d10⟩ := zAt k9
      refine bodyPost_ret (v := ((tolF p A n cc)).val) (by simp [results, Tryz.results64, go_sem, d0, d1, d2, d3, d4, d5, d6, d7, d8, d9, d10, Tol.val]) rfl ((zAa HDR).fin (zAa HO9) (zAa HQ) (zAa HH).bw ((zAa HE).trans (by rw [zAa HC])))
  ·have a1 : ((i : Int) == c.br) = false := by simpa using hto
   go_upto_region 15 with fail
   go_quiet (fail)
   have HD1 := hide ((zAa HD).calm (below_drewN (Below.refl _ wc) nq))
   generalize wc.drewN nq = w1c at HD1 ⊢
   clear c7 c0 b1
   have c0 : w1c.cell? ⟨y.hb, 0, none⟩ = some (.int .i64 c.br) := ((zAa HD1).pw.pc .con).blk.cell 0
   go_upto_region 22 with fail
   by_cases hfr : (f : Int) = c.br
   ·have a2 : ((f : Int) == c.br) = true := by simpa using hfr
    have HC := hide (show zFd c (S.opened p k) p = zBa i (zAp c p.data).1 (zAp c p.data).1.length (S.opened p k) by
     unfold zFd
     rw [if_neg (by rw [zAa HPT]; exact hto), if_pos (by rw [zAa HPF]; exact hfr), zAa HPT, Int.toNat_natCast])
    clear hfr
    go_upto_region 23 with fail
    have HD2 := HD1
    obtain ⟨w2c, hw2c⟩ : ∃ w2c, w2c = w1c := ⟨_, rfl⟩
    subst hw2c
    clear c0
    go_cut [12] (fun s12 W => Hid (∃ owd, DelAt w c y (S.opened p k) (K + 1) base ow q b3 p A n cc W owd ∧ zPv (zAp c p.data).1 W owd s12))
    case first =>
     have hD := zAa HD2
     have hcb := (hD.pw.pc .con).blk
     have e0 := fun m : Ext w2c => m.cell (show w2c.cell? ⟨y.hb, 0, none⟩ = some (.int .i64 c.br) from hcb.cell 0)
     have e1 := fun m : Ext w2c => m.cell (show w2c.cell? ⟨y.hb, 1, none⟩ = some (.slice c.la.A c.la.n c.la.c) from hcb.cell 1)
     have e2 := fun m : Ext w2c => m.cell (show w2c.cell? ⟨y.hb, 2, none⟩ = some (.int .i64 c.tk) from hcb.cell 2)
     have e3 := fun m : Ext w2c => m.cell (show w2c.cell? ⟨y.hb, 3, none⟩ = some (.slice c.mi.A c.mi.n c.mi.c) from hcb.cell 3)
     have e4 := fun m : Ext w2c => m.cell (show w2c.cell? ⟨y.hb, 4, none⟩ = some (.int .i64 c.cap) from hcb.cell 4)
     have e9 := fun m : Ext w2c => m.cell (show w2c.cell? ⟨b3, 9, none⟩ = some (.slice A n cc) from hD.bk.cell 9)
     have hcaps := zCx hD.row
     have hdl : p.data.length = n := by have := (Reads.of_own hD.row).1; simpa using this
     have HAK := hide (fun W (hW : Below w2c.heap.size w2c W) => zSj c A n cc p.data W.heap.size W ((hD.calm hW).pw.cfg.more (hD.calm hW).pw.bw) hdl hcaps.2.1 hcaps.2.2 (Reads.of_own (hD.calm hW).row) (zAa HDT) (Nat.le_refl _))
     clear hD hcb hcaps hdl
     unfold Cfg.val zGf at HAK
     refine zBt [0, 1, 2, 3, 4, 5] [6, 7, 8, 9, 10, 11] (zGv 6) (by kernel_rfl) (by kernel_rfl) (by intro c a d v w h; cases d <;> exact h) ?_
     simp only [zAb, List.map_cons, List.map_nil, List.getD_cons_zero, List.getD_cons_succ]
     repeat (go_big_quiet_step (fail))
     refine wpQuiet_nil ?_
     clear e0 e1 e2 e3 e4 e9
     have hd0 : Below w2c.heap.size w2c w2c.drew := (Below.refl _ w2c).drew
     generalize w2c.drew = wd at hd0 ⊢
     unfold zGv
     refine zAc fun K0 hK0 => ?_
     simp only [zAb, List.map_cons, List.map_nil, List.getD_cons_zero, List.getD_cons_succ]
     go_wp2_with fail
     refine (zAa HAK wd hd0).mono ?_
     rintro _ w5 ⟨v5, rfl, ho5, hb5⟩
     have hd5 := hd0.trans (hb5.mono hd0.size)
     have hD5 := (zAa HD2).calm hd5
     obtain ⟨A5, c5, rfl, _⟩ := zAf ho5
     have HCUT := hide (show Hid (∃ owd, DelAt w c y (S.opened p k) (K + 1) base ow q b3 p A n cc w5 owd ∧ zPv (zAp c p.data).1 w5 owd (.slice A5 (zAp c p.data).1.length c5)) from hide ⟨_, hD5, A5, _, c5, _, rfl, rfl, ho5, fun k' hk' => ((zAa HD2).calm hd0).pw.fresh k' (ho5.lt k' hk').1⟩)
     generalize (zAp c p.data).2 = cd at HAK ⊢
     generalize (zAp c p.data).1.length = n5 at HCUT ⊢
     clear ho5 hb5 hD5 hd0
     go_wp2_with fail
     refine hK0 _ w5 (fun _ => ⟨⟨_, hd5⟩, rfl⟩) ?_
     clear hK0 K0
     repeat' (first
      | (refine zAm ?_ ?_)
      | (refine zBg ?_; go_wp2_with (fail); go_meet; exact zAa HCUT)
      | (refine zAc fun K0 hK0 => ?_; simp only [zAb, List.map_cons, List.map_nil, List.getD_cons_zero, List.getD_cons_succ]; go_wp2_with (fail); refine hK0 _ w5 (fun _ => ⟨⟨_, hd5⟩, rfl⟩) ?_; clear hK0 K0))
    case rest =>
     obtain ⟨owd, hD0, A5, n5, c5, b5, rfl, hl5, hr5, hn5⟩ := zAa hcut
     obtain ⟨hv5, hlen5⟩ := zKp c p.data
     have hm3 := (zAj (zAa HH).may).2.2.2.1
     have hin : i < c.n := by have h1 := zAa HFT; have h2 := zAa HCN; omega
     have HGA := hide (fun W (hW : Below wc.heap.size wc W) => yCl (hD0.calm hW).pw N (zNt (zAa HS) p k) (by omega) i hin A5 n5 c5 b5 (zAp c p.data).1 hl5 hv5 (by omega) (zAi hr5 hW) hn5)
     rw [hl5] at HC
     have hcb := hD0.pw.pc .con
     obtain ⟨bs, hbs, hbp⟩ := hcb.row
     have e5 := fun m : Ext wc => m.cell (show wc.cell? ⟨y.hb, 5, none⟩ = some (.slice (some ⟨y.bb, 0, none⟩) c.n y.bc) from hcb.blk.cell 5)
     have e6 := fun m : Ext wc => m.cell (show wc.cell? ⟨b3, 1, none⟩ = some (.int .i64 (i : Int)) by rw [← zAa HPT]; exact hD0.bk.cell 1)
     have e7 := fun m : Ext wc => m.cell (show wc.cell? ⟨y.bb, i, none⟩ = some (.pointer (some ⟨(y.br i).b, 0, none⟩)) from (hbs.cell i).trans (hbp i hin))
     have hini : (i : Int) < (c.n : Int) := by omega
     have HD5 := hide hD0
     clear hl5 hr5 hn5 hv5 hlen5 hto hD0 hcb hbs hbp
     go_upto_region 24 with fail
     refine zCy 9 (by kernel_rfl) (by kernel_rfl) ?_
     simp only [List.take_succ_cons, List.take_zero, List.drop_succ_cons, List.drop_zero]
     repeat (go_big_quiet_step (fail))
     refine wpQuiet_nil ?_
     rintro _ ⟨nq, rfl⟩
     clear e5 e6 e7
     go_wp2_with fail
     refine (zAa HGA nq.W nq.h).mono ?_
     rintro _ wr ⟨rfl, ow7, hp7, hk7⟩
     have HDR := hide (((zAa HD5).calm nq.h).turn hp7 hk7)
     obtain ⟨z0, z1, z2, z3, z4, z5, z6, z7, z8, z9, z10⟩ := zAt (zAa HDR).bk
     unfold tolF at z0 z1 z2 z3 z4 z5 z6 z7 z8 z9 z10
     dsimp only at z0 z1 z2 z3 z4 z5 z6 z7 z8 z9 z10
     have HKQ9 := hide (zAa HDR).qk
     clear hp7 hk7
     obtain ⟨g0, g1, g2, g3, g4, g5, g6, g7, g8, g9, g10⟩ := zBl (zAa HKQ9)
     obtain ⟨f0, f1, f2, f3, f4, f5, f6, f7, f8, f9, f10⟩ := zBi (zAa HKQ9)
     go_wp2_with fail
     change bodyPost _ _ _ _ _ (wrT wr q (tolF p A n cc))
     have k9 := zCc (zAa HKQ9) rfl (tolF p A n cc)
     have HO9 := hide (zBk wr q (tolF p A n cc))
     clear g0 g1 g2 g3 g4 g5 g6 g7 g8 g9 g10 f0 f1 f2 f3 f4 f5 f6 f7 f8 f9 f10
     generalize wrT wr q (tolF p A n cc) = w9 at k9 HO9 ⊢
     obtain ⟨d0, d1, d2, d3, d4, d5, d6, d7, d8, d9, d10⟩ := zAt k9
     refine bodyPost_ret (v := ((tolF p A n cc)).val) (by simp [results, Tryz.results64, go_sem, d0, d1, d2, d3, d4, d5, d6, d7, d8, d9, d10, Tol.val]) rfl ((zAa HDR).fin (zAa HO9) (zAa HQ) (zAa HH).bw ((zAa HE).trans (by rw [zAa HC])))
   ·have a2 : ((f : Int) == c.br) = false := by simpa using hfr
    have HC := hide (show zFd c (S.opened p k) p = (S.opened p k).learns i (zBv c f i p.data).1 (zBv c f i p.data).1.length by
     unfold zFd
     rw [if_neg (by rw [zAa HPT]; exact hto), if_neg (by rw [zAa HPF]; exact hfr), zAa HPT, zAa HPF, Int.toNat_natCast])
    have hin : i < c.n := by
     have h1 := zAa HFT
     have h2 := zAa HCN
     rcases Nat.lt_or_ge i c.n with h | h
     ·exact h
     ·exact absurd (show (i : Int) = c.br by omega) hto
    have HHR := hide (yBa c f i p.data)
    clear hfr hto
    go_upto_region 9 with fail
    have HD2 := HD1
    obtain ⟨w2c, hw2c⟩ : ∃ w2c, w2c = w1c := ⟨_, rfl⟩
    subst hw2c
    clear c0
    go_cut [14] (fun s14 W => Hid (∃ owd, DelAt w c y (S.opened p k) (K + 1) base ow q b3 p A n cc W owd ∧ TabCut (zBv c f i p.data).1 W owd s14))
    case first =>
     have hD := zAa HD2
     have hcb := (hD.pw.pc .con).blk
     have e0 := fun m : Ext w2c => m.cell (show w2c.cell? ⟨y.hb, 0, none⟩ = some (.int .i64 c.br) from hcb.cell 0)
     have e1 := fun m : Ext w2c => m.cell (show w2c.cell? ⟨y.hb, 1, none⟩ = some (.slice c.la.A c.la.n c.la.c) from hcb.cell 1)
     have e2 := fun m : Ext w2c => m.cell (show w2c.cell? ⟨y.hb, 2, none⟩ = some (.int .i64 c.tk) from hcb.cell 2)
     have e3 := fun m : Ext w2c => m.cell (show w2c.cell? ⟨y.hb, 3, none⟩ = some (.slice c.mi.A c.mi.n c.mi.c) from hcb.cell 3)
     have e4 := fun m : Ext w2c => m.cell (show w2c.cell? ⟨y.hb, 4, none⟩ = some (.int .i64 c.cap) from hcb.cell 4)
     have e8 := fun m : Ext w2c => m.cell (show w2c.cell? ⟨b3, 1, none⟩ = some (.int .i64 (i : Int)) by rw [← zAa HPT]; exact hD.bk.cell 1)
     have e9 := fun m : Ext w2c => m.cell (show w2c.cell? ⟨b3, 9, none⟩ = some (.slice A n cc) from hD.bk.cell 9)
     have hcaps := zCx hD.row
     have hdl : p.data.length = n := by have := (Reads.of_own hD.row).1; simpa using this
     have HAK := hide (fun W (hW : Below w2c.heap.size w2c W) => yDh c f i A n cc p.data W.heap.size W ((hD.calm hW).pw.cfg.more (hD.calm hW).pw.bw) (Nat.le_refl _) hdl hcaps.2.1 hcaps.2.2 (Reads.of_own (hD.calm hW).row) (zAa HDT))
     clear hD hcb hcaps hdl
     unfold Cfg.val zJk at HAK
     refine zBt [0, 1, 2, 3, 4, 5, 6, 7, 8] [9, 10, 11, 12, 13, 14] (zGv 9) (by kernel_rfl) (by kernel_rfl) (by intro c a d v w h; cases d <;> exact h) ?_
     simp only [zAb, List.map_cons, List.map_nil, List.getD_cons_zero, List.getD_cons_succ]
     repeat (go_big_quiet_step (fail))
     refine wpQuiet_nil ?_
     clear e0 e1 e2 e3 e4 e8 e9
     have hd0 : Below w2c.heap.size w2c w2c.drew := (Below.refl _ w2c).drew
     generalize w2c.drew = wd at hd0 ⊢
     unfold zGv
     refine zAc fun K0 hK0 => ?_
     simp only [zAb, List.map_cons, List.map_nil, List.getD_cons_zero, List.getD_cons_succ]
     go_wp2_with fail
     refine (zAa HAK wd hd0).mono ?_
     rintro _ w5 ⟨t5, rfl, hte5, htr5, hb5, htm5⟩
     have hd5 := hd0.trans (hb5.mono hd0.size)
     have hD5 := (zAa HD2).calm hd5
     have HCUT := hide (show Hid (∃ owd, DelAt w c y (S.opened p k) (K + 1) base ow q b3 p A n cc w5 owd ∧ TabCut (zBv c f i p.data).1 w5 owd t5.val) from hide ⟨_, hD5, t5, rfl, hte5, _, htm5, fun g hg hne => by
      rcases htm5.1 with h | ⟨g', g1, g2, g3⟩
      ·exact absurd h hne
      ·rw [hg] at g2
       cases g2
       exact ((zAa HD2).calm hd0).pw.fresh _ g1, fun r hr k' hk' => ((zAa HD2).calm hd0).pw.fresh k' ((htm5.2 r hr).lt k' hk').1⟩)
     generalize (zBv c f i p.data).2 = cd at HAK ⊢
     unfold TabR.val at HCUT ⊢
     generalize t5.rs.length = n5 at HCUT ⊢
     generalize t5.A = A5 at HCUT ⊢
     generalize t5.c = c5 at HCUT ⊢
     clear hb5 hD5 hd0 htm5 htr5 hte5
     go_wp2_with fail
     refine hK0 _ w5 (fun _ => ⟨⟨_, hd5⟩, rfl⟩) ?_
     clear hK0 K0
     repeat' (first
      | (refine zAm ?_ ?_)
      | (refine zBg ?_; go_wp2_with (fail); go_meet; exact zAa HCUT)
      | (refine zAc fun K0 hK0 => ?_; simp only [zAb, List.map_cons, List.map_nil, List.getD_cons_zero, List.getD_cons_succ]; go_wp2_with (fail); refine hK0 _ w5 (fun _ => ⟨⟨_, hd5⟩, rfl⟩) ?_; clear hK0 K0))
    case rest =>
     obtain ⟨owd, hD0, t5, rfl, hte, hta⟩ := zAa hcut
     have HRW := hide (show ∀ l ∈ t5.es, l.length ≤ 8 from by rw [hte]; exact zYb c f i p.data)
     have hHR := zAa HHR
     rw [← hte] at hHR HC
     have htl : t5.es.length = t5.rs.length := by unfold TabR.es; rw [List.length_map]
     rw [htl] at hHR HC
     have hln4 := (zAj (zAa HH).may).2.1
     have HLN := hide hHR
     have hST := fun a => (zAa HS).st a
     have HST := hide hST
     have HRG := hide (show ∀ (m : Nat) (r : EnR), t5.rs[m]? = some r → t5.es.getD m [] = r.es from fun m r hr => by unfold TabR.es; rw [List.getD_eq_getElem?_getD, List.getElem?_map, hr]; rfl)
     have HS0 := hide (show (∃ owr, DelAt w c y ((S.opened p k).learns i t5.es 0) (K + 1) base ow q b3 p A n cc wc owr ∧ TabAt t5 wc owr) from ⟨owd, by rw [zYl]; exact hD0, hta⟩)
     have hn5i : t5.rs.length ≤ c.ln := by omega
     obtain ⟨n5, hn5⟩ : ∃ n5, n5 = t5.rs.length := ⟨_, rfl⟩
     unfold TabR.val
     rw [← hn5] at HC hn5i ⊢
     have HN5 := hide hn5
     clear hD0 hte hta hHR htl hST hn5
     go_wp2_with fail
     go_loopw [69] (fun j W => ∃ m5 : Nat, m5 ≤ n5 ∧ j = .int .i64 m5 ∧ Hid (∃ owr, DelAt w c y ((S.opened p k).learns i t5.es m5) (K + 1) base ow q b3 p A n cc W owr ∧ TabAt t5 W owr)) (fun j _ => n5 - (intOf j).toNat)
     case atStart => exact ⟨0, Nat.zero_le _, rfl, HS0⟩
     case round =>
      obtain ⟨m5, hm5, rfl, HR⟩ := hrel
      by_cases hlt : m5 < n5
      ·obtain ⟨owr, hDr, hTC⟩ := zAa HR
       have HTC := hide hTC
       obtain ⟨B, htm, _, _⟩ := hTC
       have hlt' : (m5 : Int) < (n5 : Int) := by omega
       have hm5r : m5 < t5.rs.length := by rw [← zAa HN5]; exact hlt
       obtain ⟨r, hr⟩ : ∃ r, t5.rs[m5]? = some r := ⟨_, List.getElem?_eq_getElem hm5r⟩
       obtain ⟨g5, hg5, hA5, hblk⟩ : ∃ g, B ≤ g ∧ t5.A = some ⟨g, 0, none⟩ ∧ Blk wr g 103 (t5.rs.map EnR.val).toArray := by
        rcases htm.1 with h | h
        ·rw [h] at hr; cases hr
        ·exact h
       have x0 : wr.cell? ⟨g5, m5, none⟩ = some r.val := (hblk.cell m5).trans (by rw [List.getElem?_toArray, List.getElem?_map, hr]; rfl)
       have hrow := htm.2 r (List.mem_of_getElem? hr)
       have hcaps := zCx hrow
       have hml : m5 < c.ln := by omega
       have hstl : (((S.opened p k).learns i t5.es m5).st i).length = c.ln := by
        show List.length (upd1 _ _ _ _) = _
        rw [zDg]
        exact (zLp t5.es m5 ((S.opened p k).st i) (zAa HST i).2).1.trans (zAa HST i).1
       have hr8 : r.es.length ≤ 1000000 := by
        have := zAa HRW r.es (List.mem_map.2 ⟨r, List.mem_of_getElem? hr, rfl⟩)
        omega
       have HLE := hide (fun W (hW : Below wr.heap.size wr W) => zPn (hDr.pw.calm hW) i m5 hin hml hstl r.A r.es.length r.c r.es W.heap.size rfl hr8 (Reads.of_own (zAi hrow hW)) (Nat.le_refl _))
       have hcb := hDr.pw.pc .con
       obtain ⟨bs, hbs, hbp⟩ := hcb.row
       have e5 := fun m : Ext wr => m.cell (show wr.cell? ⟨y.hb, 5, none⟩ = some (.slice (some ⟨y.bb, 0, none⟩) c.n y.bc) from hcb.blk.cell 5)
       have e6 := fun m : Ext wr => m.cell (show wr.cell? ⟨b3, 1, none⟩ = some (.int .i64 (i : Int)) by rw [← zAa HPT]; exact hDr.bk.cell 1)
       have e7 := fun m : Ext wr => m.cell (show wr.cell? ⟨y.bb, i, none⟩ = some (.pointer (some ⟨(y.br i).b, 0, none⟩)) from (hbs.cell i).trans (hbp i hin))
       have e8 := fun m : Ext wr => m.cell (show wr.cell? ⟨(y.br i).b, 3, none⟩ = some (.slice (some ⟨(y.br i).t, 0, none⟩) c.ln c.ln) from (hcb.brs i hin).cell 3)
       have hini : (i : Int) < (c.n : Int) := by omega
       have HGZ := hide (zYh (S.opened p k) i t5.es m5 r.es (zAa HRG m5 r hr))
       have HDR := hide hDr
       have HAA := hide hA5
       unfold EnR.val at x0
       clear hDr htm hr hblk hrow hcaps hstl hcb hbs hbp hm5r
       rw [hA5]
       go_upto_region 13 with fail
       refine zCy 13 (by kernel_rfl) (by kernel_rfl) ?_
       simp only [List.take_succ_cons, List.take_zero, List.drop_succ_cons, List.drop_zero]
       repeat (go_big_quiet_step (fail))
       refine wpQuiet_nil ?_
       rintro _ ⟨nq, rfl⟩
       clear e5 e6 e7 e8 x0
       go_wp2_with fail
       refine (zAa HLE nq.W nq.h).mono ?_
       rintro _ w7 ⟨rfl, ow7, hp7, hk7⟩
       have hkk := (Kept.calm (ow := owr) nq.h).trans hk7
       have HNX := hide (show (∃ owr, DelAt w c y ((S.opened p k).learns i t5.es (m5 + 1)) (K + 1) base ow q b3 p A n cc w7 owr ∧ TabAt t5 w7 owr) from ⟨ow7, (zAa HDR).turn (by rw [zAa HGZ]; exact hp7) hkk, (zAa HTC).turn hkk⟩)
       clear hp7 hk7 hkk
       go_wp2_with fail
       refine ⟨⟨m5 + 1, by omega, by go_num, HNX⟩, by simp [intOf]; omega⟩
      ·obtain rfl : m5 = n5 := by omega
       obtain ⟨owr, hDr, _⟩ := zAa HR
       have HDR := hide hDr
       obtain ⟨z0, z1, z2, z3, z4, z5, z6, z7, z8, z9, z10⟩ := zAt (zAa HDR).bk
       unfold tolF at z0 z1 z2 z3 z4 z5 z6 z7 z8 z9 z10
       dsimp only at z0 z1 z2 z3 z4 z5 z6 z7 z8 z9 z10
       have HKQ9 := hide hDr.qk
       clear hDr
       obtain ⟨g0, g1, g2, g3, g4, g5, g6, g7, g8, g9, g10⟩ := zBl (zAa HKQ9)
       obtain ⟨f0, f1, f2, f3, f4, f5, f6, f7, f8, f9, f10⟩ := zBi (zAa HKQ9)
       go_wp2_with fail
       change bodyPost _ _ _ _ _ (wrT wr q (tolF p A n cc))
       have k9 := zCc (zAa HKQ9) rfl (tolF p A n cc)
       have HO9 := hide (zBk wr q (tolF p A n cc))
       clear g0 g1 g2 g3 g4 g5 g6 g7 g8 g9 g10 f0 f1 f2 f3 f4 f5 f6 f7 f8 f9 f10
       generalize wrT wr q (tolF p A n cc) = w9 at k9 HO9 ⊢
       obtain ⟨d0, d1, d2, d3, d4, d5, d6, d7, d8, d9, d10⟩ := zAt k9
       refine bodyPost_ret (v := ((tolF p A n cc)).val) (by simp [results, Tryz.results64, go_sem, d0, d1, d2, d3, d4, d5, d6, d7, d8, d9, d10, Tol.val]) rfl ((zAa HDR).fin (zAa HO9) (zAa HQ) (zAa HH).bw ((zAa HE).trans (by rw [zAa HC])))
theorem zYi (h : PW w c y S K base ow) (N : Nat) (hS : S.ok c N) (hN : N ≤ 10000) (hK : K < 1000000) (id : Int) (hwf : (Lit.int .i64 id).wf = true) :
    Calls Tryz.prog 64 #[.pointer (some ⟨y.hb, 0, none⟩), .int .i64 id] w (zBo w c y (K + 1) base ow (zCj c S id)) := by
 by_cases h6 : dueW S id = 6
 ·exact zVz h N hS hN hK id hwf h6
 by_cases h0 : dueW S id = 0
 ·exact zVr h N hS hN hK id hwf h0
 ·exact zYc h N hS hN hK id hwf h6 h0
end
end
section
open Go.RowKit
section
variable {w W : World} {c : Cfg} {y : Lay} {S S' : WS} {K base tb wb : Nat} {ow ow1 : Nat → Tag} {t : Tol}
theorem TkA.w0 (h : TkA w c y S K base ow tb wb t W ow1) : W.cell? ⟨wb, 0, none⟩ = some (.pointer (some ⟨y.hb, 0, none⟩)) := h.wk.cell 0
theorem TkA.h5 (h : TkA w c y S K base ow tb wb t W ow1) : W.cell? ⟨y.hb, 5, none⟩ = some (.slice (some ⟨y.bb, 0, none⟩) c.n y.bc) := (h.pw.pc .con).blk.cell 5
theorem TkA.h6 (h : TkA w c y S K base ow tb wb t W ow1) : W.cell? ⟨y.hb, 6, none⟩ = some (.slice (some ⟨y.kb, 0, none⟩) c.m y.kc) := (h.pw.pc .con).blk.cell 6
theorem TkA.h0 (h : TkA w c y S K base ow tb wb t W ow1) : W.cell? ⟨y.hb, 0, none⟩ = some (.int .i64 c.br) := (h.pw.pc .con).blk.cell 0
theorem TkA.br (h : TkA w c y S K base ow tb wb t W ow1) {i : Nat} (hi : i < c.n) : W.cell? ⟨y.bb, i, none⟩ = some (.pointer (some ⟨(y.br i).b, 0, none⟩)) := by
 obtain ⟨cs, h1, h2⟩ := (h.pw.pc .con).row
 exact (h1.cell i).trans (h2 i hi)
theorem TkA.bk (h : TkA w c y S K base ow tb wb t W ow1) {j : Nat} (hj : j < c.m) : W.cell? ⟨y.kb, j, none⟩ = some (.pointer (some ⟨y.bg j, 0, none⟩)) := by
 obtain ⟨cs, h1, h2⟩ := (h.pw.pc .con).bks
 exact (h1.cell j).trans (h2 j hj)
theorem TkA.s0 (h : TkA w c y S K base ow tb wb t W ow1) {i : Nat} (hi : i < c.n) : W.cell? ⟨(y.br i).b, 0, none⟩ = some (.slice (some ⟨(y.br i).s, 0, none⟩) c.m c.m) := ((h.pw.pc .con).brs i hi).cell 0
theorem TkA.s1 (h : TkA w c y S K base ow tb wb t W ow1) {i : Nat} (hi : i < c.n) : W.cell? ⟨(y.br i).b, 1, none⟩ = some (.slice (some ⟨(y.br i).a, 0, none⟩) c.m c.m) := ((h.pw.pc .con).brs i hi).cell 1
theorem TkA.s3 (h : TkA w c y S K base ow tb wb t W ow1) {i : Nat} (hi : i < c.n) : W.cell? ⟨(y.br i).b, 3, none⟩ = some (.slice (some ⟨(y.br i).t, 0, none⟩) c.ln c.ln) := ((h.pw.pc .con).brs i hi).cell 3
end
structure TickAt (w : World) (c : Cfg) (y : Lay) (S : WS) (K base : Nat) (ow : Nat → Tag) (tb wb : Nat) (l : List PoD) (rep : List Int) (t : Tol) (W : World) (ow1 : Nat → Tag) : Prop where
 tk : TkA w c y (S.posts l) K base ow tb wb t W ow1
 d : t.d = ⟨0, 0, Stk.none, 0, envs S.lts.length l, [], rep⟩
section
variable {w W W' : World} {c : Cfg} {y : Lay} {S S' : WS} {K base tb wb : Nat} {ow ow1 : Nat → Tag} {t : Tol} {l : List PoD} {rep : List Int}
theorem TickAt.sn (h : TickAt w c y S K base ow tb wb l rep t W ow1) : t.sn = l.length := by
 have h1 := h.tk.own.ok.sl
 rw [h.d] at h1
 dsimp only at h1
 rw [zPf] at h1
 exact h1.symm
theorem TickAt.calm (h : TickAt w c y S K base ow tb wb l rep t W ow1) (hb : Below W.heap.size W W') : TickAt w c y S K base ow tb wb l rep t W' ow1 := ⟨h.tk.calm hb, h.d⟩
theorem TickAt.send {p : PoD} {e : Ending} (h : TickAt w c y S K base ow tb wb l rep t W ow1) (hp : zPd w c y (S.posts l) K base ow tb wb t p W ow1 e W') :
    e = .returned (.tuple #[]) ∧ ∃ (t2 : Tol) (ow2 : Nat → Tag), TickAt w c y S K base ow tb wb (l ++ [p]) rep t2 W' ow2 ∧ (t2.rA = t.rA ∧ t2.rn = t.rn ∧ t2.rc = t.rc) ∧ Only (fun k => ow1 k ≠ .no ∨ k = tb ∨ (Value.slice t.sA t.sn t.sc).ownBlock = some k) W W' ∧ ∀ k, k < W.heap.size → ow2 k = ow1 k := by
 obtain ⟨rfl, t2, ow2, h1, h2, _, h4, h5, h6⟩ := hp
 refine ⟨rfl, t2, ow2, ⟨?_, ?_⟩, h4, h5, h6⟩
 ·rw [zXx] at h1
  exact h1
 ·rw [h2, h.d, yBz]
  unfold zLh
  dsimp only
  unfold WS.posts
  dsimp only
  rw [List.length_append]
theorem TkA.asks (h : TkA w c y S K base ow tb wb t W ow1) {i : Nat} (hi : i < c.n) (hl : (S.ask i).length = c.m) : IRw.ok ⟨some ⟨(y.br i).a, 0, none⟩, c.m, c.m, S.ask i⟩ W W.heap.size := by
 have hm3 := (zAj h.pw.may).2.2.2.1
 have := h.pw.pc (.ask i) hi
 exact ⟨hl, Nat.le_refl _, by unfold maxLen; dsimp only; omega, IRow.reads this.row hl⟩
theorem TkA.tab (h : TkA w c y S K base ow tb wb t W ow1) {i : Nat} (hi : i < c.n) (hl : (S.st i).length = c.ln) : ∃ T : TabR, T.val = .slice (some ⟨(y.br i).t, 0, none⟩) c.ln c.ln ∧ TabOk W W.heap.size T ∧ T.es = S.st i := by
 have hln := (zAj h.pw.may).2.1
 obtain ⟨⟨SS, h1, h2, h3⟩, o⟩ := h.pw.pc (.str i) hi
 have hSl : SS.length = c.ln := by rw [← hl, ← h2, List.length_map]
 refine ⟨⟨SS, some ⟨(y.br i).t, 0, none⟩, c.ln⟩, by unfold TabR.val; dsimp only; rw [hSl], ⟨⟨by have h := zCh h1.blk h1.blk.lt; simpa using h, fun r hr => Reads.of_own (h1.rows r hr)⟩, by dsimp only; unfold maxLen; omega, fun r hr => by have := h1.small r hr; unfold maxLen; omega⟩, h2⟩
end
theorem zKj (c : Cfg) (zs : List Int) (h : c.m ≤ 3) : (zCa c zs).1.length ≤ 8 := by
 unfold zCa
 split
 ·exact Nat.zero_le _
 split
 ·exact Nat.zero_le _
 rename_i hl
 split
 ·exact Nat.zero_le _
 unfold zEh
 have hfst : (zs.map fun z : Int => ((21 : Int), z)).map (·.1) = List.replicate zs.length 21 := by
  rw [List.map_map]
  exact List.map_const'
 rw [hfst]
 have hm : zs.length ≤ 3 := by unfold Cfg.m at h; omega
 have hb : ∀ n, n ≤ 3 → (zDt (List.replicate n 21)).1.toNat ≤ 8 := fun n hn => by
  obtain h | h | h | h : n = 0 ∨ n = 1 ∨ n = 2 ∨ n = 3 := by omega
  all_goals rw [h]; decide
 split
 ·exact Nat.zero_le _
 split
 ·have := hb _ hm
  simpa [bytesOf] using this
 ·exact Nat.zero_le _
theorem zUk (c : Cfg) (a b : Int) (R : List (List Ent)) (h : c.ln ≤ 4) : (zAv c a b R).1.length ≤ 136 := by
 have := zJg a.toNat b.toNat c.la.zs 0
 unfold Cfg.ln at h
 unfold zAv
 split
 ·exact Nat.zero_le _
 split
 ·exact Nat.zero_le _
 split
 ·exact Nat.zero_le _
 split
 ·exact Nat.zero_le _
 split
 ·exact Nat.zero_le _
 ·simp [bytesOf]
  omega
def BytCut (l : List Int) (W : World) (v : Value) : Prop := ∃ A n cc B, v = .slice A n cc ∧ l.length = n ∧ W.ownsRow B 5 1 (.slice A n cc) n (l.map (.int .u8))
theorem BytCut.of {l : List Int} {W : World} {v : Value} {B : Nat} (h : W.ownsRow B 5 1 v l.length (l.map (.int .u8))) : BytCut l W v := by
 obtain ⟨A, c, rfl, _⟩ := zAf h
 exact ⟨A, _, c, B, rfl, rfl, h⟩
end
end Go.Proofs.YtbolcebmbpepdaaGreatDoor
