/- What steps came to (Told): how one lies in memory, one that came in, sameTold and sameTolds on what reads alike. Conditions: none beyond what each theorem states. -/
import Derived.Test.YtbkciniikahjhaaBytesSame
import Derived.Test.YtbkciniikahjhaaIntRow
import Derived.Test.YtbkciniikahjhaaIRw
import Derived.Test.YtbkciniikahjhaaCalm
import Derived.Test.YtbkciniikahjhaaWeigh
namespace Go.Proofs.Ytbkciniikahjhaa
open Go.RowKit Go.ChangeShapes Go.WideShapes Go.Deep
set_option linter.unusedVariables false

structure Envl where
  id : Int
  fr : Int
  to_ : Int
  size : Int
def Envl.cells (e : Envl) : List Value := [.int .i64 e.id, .int .i64 e.fr, .int .i64 e.to_, .int .i64 e.size]
theorem Envl.cells_len (e : Envl) : e.cells.length = 4 := rfl
structure Stk where
  code : Int
  id : Int
  free : Int
  held : Int
  used : Int
def Stk.cells (s : Stk) : List Value := [.int .i64 s.code, .int .i64 s.id, .int .i64 s.free, .int .i64 s.held, .int .i64 s.used]
def Stk.val (s : Stk) : Value := .agg #[.int .i64 s.code, .int .i64 s.id, .int .i64 s.free, .int .i64 s.held, .int .i64 s.used]
def Stk.none : Stk := ⟨0, 0, 0, 0, 0⟩
/-- what is told, without its places -/
structure TolD where
  code : Int
  who : Int
  stock : Stk
  value : Int
  sent : List Envl
  frame : List Int
  report : List Int
/-- the places of the three rows -/
structure Tol where
  d : TolD
  sA : Option Addr
  sn : Nat
  sc : Nat
  fA : Option Addr
  fn : Nat
  fc : Nat
  rA : Option Addr
  rn : Nat
  rc : Nat
def Tol.cells (t : Tol) : List Value := [.int .i64 t.d.code, .int .i64 t.d.who, .int .i64 t.d.stock.code, .int .i64 t.d.stock.id, .int .i64 t.d.stock.free, .int .i64 t.d.stock.held, .int .i64 t.d.stock.used, .int .i64 t.d.value, .slice t.sA t.sn t.sc, .slice t.fA t.fn t.fc, .slice t.rA t.rn t.rc]
def Tol.val (t : Tol) : Value := .agg #[.int .i64 t.d.code, .int .i64 t.d.who, .int .i64 t.d.stock.code, .int .i64 t.d.stock.id, .int .i64 t.d.stock.free, .int .i64 t.d.stock.held, .int .i64 t.d.stock.used, .int .i64 t.d.value, .slice t.sA t.sn t.sc, .slice t.fA t.fn t.fc, .slice t.rA t.rn t.rc]
theorem Tol.cells_len (t : Tol) : t.cells.length = 11 := rfl
structure Tol.ok (t : Tol) (w : World) (B : Nat) : Prop where
  sl : t.d.sent.length = t.sn
  sc : t.sn ≤ t.sc
  sm : t.sc ≤ maxLen
  sr : Reads w B 4 t.sA t.sn (t.d.sent.flatMap Envl.cells)
  fl : t.d.frame.length = t.fn
  fc : t.fn ≤ t.fc
  fm : t.fc ≤ maxLen
  fr : Reads w B 1 t.fA t.fn (t.d.frame.map (.int .u8))
  rl : t.d.report.length = t.rn
  rc : t.rn ≤ t.rc
  rm : t.rc ≤ maxLen
  rr : Reads w B 1 t.rA t.rn (t.d.report.map (.int .i64))
theorem Tol.ok.keep {t : Tol} {w w' : World} {B : Nat} (h : t.ok w B) (hk : ∀ p : Addr, p.block < B → w'.cell? p = w.cell? p) : t.ok w' B := { h with sr := h.sr.keep hk, fr := h.fr.keep hk, rr := h.rr.keep hk }
theorem Tol.ok.below {t : Tol} {w w' : World} {B : Nat} (h : t.ok w B) (hb : Below B w w') : t.ok w' B := h.keep fun _ hp => hb.cell hp
theorem Tol.ok.more {t : Tol} {w : World} {B B' : Nat} (h : t.ok w B) (hB : B ≤ B') : t.ok w B' := { h with sr := h.sr.more hB, fr := h.fr.more hB, rr := h.rr.more hB }

/-- no row takes more than the reach -/
def Tol.fits (t : Tol) : Prop := t.sn * 32 ≤ 140737488351232 ∧ t.fn * 1 ≤ 140737488351232 ∧ t.rn * 8 ≤ 140737488351232

section
variable {H : Type} {enc : TypeId × Value → H} {w : World} {base : Nat} {spare : Nat → Bool} {held : Bool}
theorem open_envl {n : Nat} {cs : List Value} {y : DataW H × List MemPlace} (hy : DataW.trod enc Try.prog w base spare held n 80 cs = some y) : cs.length = 4 ∧ ∃ e : Envl, cs = e.cells ∧ True := by
  obtain ⟨hl, ys, _, _, m, hf⟩ := struct_cells Try.underlying80 (by kernel_rfl) (by kernel_rfl) hy
  obtain ⟨v0, y0, c0, _, t0⟩ := hf 0 _ rfl
  obtain ⟨v1, y1, c1, _, t1⟩ := hf 1 _ rfl
  obtain ⟨v2, y2, c2, _, t2⟩ := hf 2 _ rfl
  obtain ⟨v3, y3, c3, _, t3⟩ := hf 3 _ rfl
  obtain ⟨z0, e0, _, w0⟩ := DataW.trod_int Try.underlying3 t0
  obtain ⟨z1, e1, _, w1⟩ := DataW.trod_int Try.underlying3 t1
  obtain ⟨z2, e2, _, w2⟩ := DataW.trod_int Try.underlying3 t2
  obtain ⟨z3, e3, _, w3⟩ := DataW.trod_int Try.underlying3 t3
  simp at e0 e1 e2 e3
  subst e0 e1 e2 e3
  refine ⟨hl, ⟨z0, z1, z2, z3⟩, ?_, trivial⟩
  match cs, hl with
  | [a, b, c, d], _ =>
    simp at c0 c1 c2 c3
    subst c0 c1 c2 c3
    rfl
theorem open_sent {fuel : Nat} {cs : List Value} {x : DataW H × List MemPlace} (h : DataW.trod enc Try.prog w base spare held fuel 75 cs = some x) :
    ∃ A n c, ∃ l : List Envl, cs = [.slice A n c] ∧ l.length = n ∧ n ≤ c ∧ c ≤ maxLen ∧ Reads w w.heap.size 4 A n (l.flatMap Envl.cells) := by
  rcases open_slice Try.underlying75 h with ⟨rfl, _⟩ | ⟨a, len, cap, m, n, D, Pl, rfl, _⟩
  · exact ⟨none, 0, 0, [], rfl, rfl, Nat.le_refl _, Nat.zero_le _, Reads.none_⟩
  · obtain ⟨h1, h2, _, l, h3, h4, _⟩ := rows_reads Envl.cells (fun _ => True) Try.underlying75 (size := 4) (by kernel_rfl) (by omega) (fun n cs y hy => open_envl hy) h
    exact ⟨some a, len, cap, l, rfl, h3, h1, h2, h4⟩
theorem open_bytesW {fuel : Nat} {cs : List Value} {x : DataW H × List MemPlace} (h : DataW.trod enc Try.prog w base spare held fuel 26 cs = some x) :
    ∃ A n c, ∃ l : List Int, cs = [.slice A n c] ∧ l.length = n ∧ n ≤ c ∧ c ≤ maxLen ∧ Reads w w.heap.size 1 A n (l.map (.int .u8)) := by
  rcases open_slice Try.underlying26 h with ⟨rfl, _⟩ | ⟨a, len, cap, m, n, D, Pl, rfl, _⟩
  · exact ⟨none, 0, 0, [], rfl, rfl, Nat.le_refl _, Nat.zero_le _, Reads.none_⟩
  · obtain ⟨h1, h2, zs, h3, h4, _⟩ := ints_reads Try.underlying26 Try.underlying5 (by kernel_rfl) h
    exact ⟨some a, len, cap, zs, rfl, h3, h1, h2, h4⟩
set_option maxRecDepth 100000 in
theorem open_told {n : Nat} {cs : List Value} {y : DataW H × List MemPlace} (hy : DataW.trod enc Try.prog w base spare held n 77 cs = some y) : cs.length = 11 ∧ (Sized Try.prog 77 y.1 → ∃ t : Tol, cs = t.cells ∧ t.ok w w.heap.size ∧ t.fits) := by
  obtain ⟨ys, m, hn, hy, hl, hyl, hf⟩ := DataW.trod_struct Try.underlying77 hy
  rw [show Try.prog.cellsOf 77 = 11 by kernel_rfl] at hl
  have key : ∀ (i : Nat), i < 7 → ∃ z, ys[i]? = some z := fun i hi => ⟨_, List.getElem?_eq_getElem (by rw [hyl]; exact hi)⟩
  obtain ⟨y0, k0⟩ := key 0 (by omega)
  obtain ⟨y1, k1⟩ := key 1 (by omega)
  obtain ⟨y2, k2⟩ := key 2 (by omega)
  obtain ⟨y3, k3⟩ := key 3 (by omega)
  obtain ⟨y4, k4⟩ := key 4 (by omega)
  obtain ⟨y5, k5⟩ := key 5 (by omega)
  obtain ⟨y6, k6⟩ := key 6 (by omega)
  have t0 : DataW.trod enc Try.prog w base spare held m 27 ((cs.drop 0).take (Try.prog.cellsOf 27)) = ys[0]? := hf 0 _ rfl
  have t1 : DataW.trod enc Try.prog w base spare held m 3 ((cs.drop 1).take (Try.prog.cellsOf 3)) = ys[1]? := hf 1 _ rfl
  have t2 : DataW.trod enc Try.prog w base spare held m 74 ((cs.drop 2).take (Try.prog.cellsOf 74)) = ys[2]? := hf 2 _ rfl
  have t3 : DataW.trod enc Try.prog w base spare held m 3 ((cs.drop 7).take (Try.prog.cellsOf 3)) = ys[3]? := hf 3 _ rfl
  have t4 : DataW.trod enc Try.prog w base spare held m 75 ((cs.drop 8).take (Try.prog.cellsOf 75)) = ys[4]? := hf 4 _ rfl
  have t5 : DataW.trod enc Try.prog w base spare held m 26 ((cs.drop 9).take (Try.prog.cellsOf 26)) = ys[5]? := hf 5 _ rfl
  have t6 : DataW.trod enc Try.prog w base spare held m 22 ((cs.drop 10).take (Try.prog.cellsOf 22)) = ys[6]? := hf 6 _ rfl
  rw [show Try.prog.cellsOf 27 = 1 by kernel_rfl, k0] at t0
  rw [show Try.prog.cellsOf 3 = 1 by kernel_rfl, k1] at t1
  rw [show Try.prog.cellsOf 74 = 5 by kernel_rfl, k2] at t2
  rw [show Try.prog.cellsOf 3 = 1 by kernel_rfl, k3] at t3
  rw [show Try.prog.cellsOf 75 = 1 by kernel_rfl, k4] at t4
  rw [show Try.prog.cellsOf 26 = 1 by kernel_rfl, k5] at t5
  rw [show Try.prog.cellsOf 22 = 1 by kernel_rfl, k6] at t6
  refine ⟨hl, fun hsz => ?_⟩
  rw [hy] at hsz
  have g4' := hsz.part Try.underlying77 (j := 4) rfl (show (ys.map (·.1))[4]? = some y4.1 by rw [List.getElem?_map, k4]; rfl)
  have g5' := hsz.part Try.underlying77 (j := 5) rfl (show (ys.map (·.1))[5]? = some y5.1 by rw [List.getElem?_map, k5]; rfl)
  have g6' := hsz.part Try.underlying77 (j := 6) rfl (show (ys.map (·.1))[6]? = some y6.1 by rw [List.getElem?_map, k6]; rfl)
  match cs, hl with
  | [a0, a1, a2, a3, a4, a5, a6, a7, a8, a9, a10], _ =>
    simp only [List.drop_zero, List.drop_succ_cons, List.take_succ_cons, List.take_zero] at t0 t1 t2 t3 t4 t5 t6
    obtain ⟨z0, e0, _, _⟩ := DataW.trod_int Try.underlying27 t0
    obtain ⟨z1, e1, _, _⟩ := DataW.trod_int Try.underlying3 t1
    obtain ⟨_, xs, _, _, m2, hg⟩ := struct_cells Try.underlying74 (by kernel_rfl) (by kernel_rfl) t2
    obtain ⟨v0, _, c0, _, s0⟩ := hg 0 _ rfl
    obtain ⟨v1, _, c1, _, s1⟩ := hg 1 _ rfl
    obtain ⟨v2, _, c2, _, s2⟩ := hg 2 _ rfl
    obtain ⟨v3, _, c3, _, s3⟩ := hg 3 _ rfl
    obtain ⟨v4, _, c4, _, s4⟩ := hg 4 _ rfl
    obtain ⟨q0, g0, _, _⟩ := DataW.trod_int Try.underlying27 s0
    obtain ⟨q1, g1, _, _⟩ := DataW.trod_int Try.underlying3 s1
    obtain ⟨q2, g2, _, _⟩ := DataW.trod_int Try.underlying3 s2
    obtain ⟨q3, g3, _, _⟩ := DataW.trod_int Try.underlying3 s3
    obtain ⟨q4, g4, _, _⟩ := DataW.trod_int Try.underlying3 s4
    obtain ⟨z3, e3, _, _⟩ := DataW.trod_int Try.underlying3 t3
    obtain ⟨sA, sn, sc, sl, e4, u1, u2, u3, u4⟩ := open_sent t4
    obtain ⟨fA, fn, fc, fl, e5, p1, p2, p3, p4⟩ := open_bytesW t5
    obtain ⟨r, e6, r1, r2, r3, r4⟩ := open_irow t6
    rw [e4] at t4
    rw [e5] at t5
    rw [e6] at t6
    have z4 := Sized.len g4' Try.underlying75 (sliceD_of Try.underlying75 t4)
    have z5 := Sized.len g5' Try.underlying26 (sliceD_of Try.underlying26 t5)
    have z6 := Sized.len g6' Try.underlying22 (sliceD_of Try.underlying22 (show DataW.trod enc Try.prog w base spare held m 22 [.slice r.A r.n r.c] = _ from t6))
    rw [show Try.prog.bytesOf 80 = 32 by kernel_rfl] at z4
    rw [show Try.prog.bytesOf 5 = 1 by kernel_rfl] at z5
    rw [show Try.prog.bytesOf 3 = 8 by kernel_rfl] at z6
    have hre : reachBytes = 140737488351232 := rfl
    rw [hre] at z4 z5 z6
    clear t4 t5 t6
    simp at e0 e1 e3 e4 e5 e6 g0 g1 g2 g3 g4 c0 c1 c2 c3 c4
    subst e0 e1 e3 e4 e5 e6 g0 g1 g2 g3 g4 c0 c1 c2 c3 c4
    exact ⟨⟨⟨z0, z1, ⟨q0, q1, q2, q3, q4⟩, z3, sl, fl, r.zs⟩, sA, sn, sc, fA, fn, fc, r.A, r.n, r.c⟩, rfl, ⟨u1, u2, u3, u4, p1, p2, p3, p4, r1, r2, r3, r4⟩, z4, z5, z6⟩
theorem open_tolds {fuel : Nat} {A : Option Addr} {len cap : Nat} {x : DataW H × List MemPlace} (h : DataW.trod enc Try.prog w base spare held fuel 43 [.slice A len cap] = some x) (hs : Sized Try.prog 43 x.1) :
    len ≤ cap ∧ cap ≤ maxLen ∧ SliceD x.1 len ∧ ∃ l : List Tol, l.length = len ∧ Reads w w.heap.size 11 A len (l.flatMap Tol.cells) ∧ ∀ t ∈ l, t.ok w w.heap.size ∧ t.fits :=
  rows_readsW Tol.cells (fun t => t.ok w w.heap.size ∧ t.fits) Try.underlying43 (size := 11) (by kernel_rfl) (by omega) (fun n cs y hy => open_told hy) h hs
end

set_option maxRecDepth 100000 in
set_option maxHeartbeats 1600000 in
theorem sameTold_any (a b : Tol) (B : Nat) (w : World) (hd : a.d = b.d) (ha : a.ok w B) (hb : b.ok w B) (hB : B ≤ w.heap.size) :
    Calls Try.prog 53 #[a.val, b.val] w fun e w' => e = .returned (.bool true) ∧ Below w.heap.size w w' := by
  obtain ⟨⟨code, who, ⟨q0, q1, q2, q3, q4⟩, value, sent, frame, report⟩, sA, sn, sc, fA, fn, fc, rA, rn, rc⟩ := a
  obtain ⟨d', sA', sn', sc', fA', fn', fc', rA', rn', rc'⟩ := b
  dsimp only at hd
  subst hd
  obtain ⟨sl, sc1, sm, sr, fl, fc1, fm, fr, rl, rc1, rm, rr⟩ := ha
  obtain ⟨sl', sc1', sm', sr', fl', fc1', fm', fr', rl', rc1', rm', rr'⟩ := hb
  dsimp only at sl sc1 sm sr fl fc1 fm fr rl rc1 rm rr sl' sc1' sm' sr' fl' fc1' fm' fr' rl' rc1' rm' rr'
  obtain rfl : sn = sn' := by omega
  obtain rfl : fn = fn' := by omega
  obtain rfl : rn = rn' := by omega
  unfold Tol.val
  dsimp only
  obtain ⟨w1, hw1⟩ : ∃ w1, w1 = w.alloc (.cells #[.int .i64 code, .int .i64 who, .int .i64 q0, .int .i64 q1, .int .i64 q2, .int .i64 q3, .int .i64 q4, .int .i64 value, .slice sA sn sc, .slice fA fn fc, .slice rA rn rc] 77) := ⟨_, rfl⟩
  obtain ⟨wx, hwx⟩ : ∃ wx, wx = w1.alloc (.cells #[.int .i64 code, .int .i64 who, .int .i64 q0, .int .i64 q1, .int .i64 q2, .int .i64 q3, .int .i64 q4, .int .i64 value, .slice sA' sn sc', .slice fA' fn fc', .slice rA' rn rc'] 77) := ⟨_, rfl⟩
  have hs1 : w1.heap.size = w.heap.size + 1 := by rw [hw1]; simp
  have k0 : Blk wx w.heap.size 77 #[.int .i64 code, .int .i64 who, .int .i64 q0, .int .i64 q1, .int .i64 q2, .int .i64 q3, .int .i64 q4, .int .i64 value, .slice sA sn sc, .slice fA fn fc, .slice rA rn rc] := by rw [hwx, hw1]; exact (Blk.new w 77 _).alloc _
  have k1 : Blk wx (w.heap.size + 1) 77 #[.int .i64 code, .int .i64 who, .int .i64 q0, .int .i64 q1, .int .i64 q2, .int .i64 q3, .int .i64 q4, .int .i64 value, .slice sA' sn sc', .slice fA' fn fc', .slice rA' rn rc'] := by rw [hwx, ← hs1]; exact Blk.new w1 77 _
  have hb1 : Below w.heap.size w w1 := by rw [hw1]; exact (Below.refl _ _).alloc (Nat.le_refl _) _
  have hbx : Below w.heap.size w wx := by rw [hwx]; exact hb1.alloc hb1.size _
  have a0 : ∀ W, Below wx.heap.size wx W → W.cell? ⟨w.heap.size, 0, none⟩ = some (.int .i64 code) := fun W hW => (hW.cell (p := ⟨w.heap.size, 0, none⟩) (Blk.lt k0)).trans (Blk.cell k0 0)
  have a1 : ∀ W, Below wx.heap.size wx W → W.cell? ⟨w.heap.size, 1, none⟩ = some (.int .i64 who) := fun W hW => (hW.cell (p := ⟨w.heap.size, 1, none⟩) (Blk.lt k0)).trans (Blk.cell k0 1)
  have a2 : ∀ W, Below wx.heap.size wx W → W.cell? ⟨w.heap.size, 2, none⟩ = some (.int .i64 q0) := fun W hW => (hW.cell (p := ⟨w.heap.size, 2, none⟩) (Blk.lt k0)).trans (Blk.cell k0 2)
  have a3 : ∀ W, Below wx.heap.size wx W → W.cell? ⟨w.heap.size, 3, none⟩ = some (.int .i64 q1) := fun W hW => (hW.cell (p := ⟨w.heap.size, 3, none⟩) (Blk.lt k0)).trans (Blk.cell k0 3)
  have a4 : ∀ W, Below wx.heap.size wx W → W.cell? ⟨w.heap.size, 4, none⟩ = some (.int .i64 q2) := fun W hW => (hW.cell (p := ⟨w.heap.size, 4, none⟩) (Blk.lt k0)).trans (Blk.cell k0 4)
  have a5 : ∀ W, Below wx.heap.size wx W → W.cell? ⟨w.heap.size, 5, none⟩ = some (.int .i64 q3) := fun W hW => (hW.cell (p := ⟨w.heap.size, 5, none⟩) (Blk.lt k0)).trans (Blk.cell k0 5)
  have a6 : ∀ W, Below wx.heap.size wx W → W.cell? ⟨w.heap.size, 6, none⟩ = some (.int .i64 q4) := fun W hW => (hW.cell (p := ⟨w.heap.size, 6, none⟩) (Blk.lt k0)).trans (Blk.cell k0 6)
  have a7 : ∀ W, Below wx.heap.size wx W → W.cell? ⟨w.heap.size, 7, none⟩ = some (.int .i64 value) := fun W hW => (hW.cell (p := ⟨w.heap.size, 7, none⟩) (Blk.lt k0)).trans (Blk.cell k0 7)
  have a8 : ∀ W, Below wx.heap.size wx W → W.cell? ⟨w.heap.size, 8, none⟩ = some (.slice sA sn sc) := fun W hW => (hW.cell (p := ⟨w.heap.size, 8, none⟩) (Blk.lt k0)).trans (Blk.cell k0 8)
  have a9 : ∀ W, Below wx.heap.size wx W → W.cell? ⟨w.heap.size, 9, none⟩ = some (.slice fA fn fc) := fun W hW => (hW.cell (p := ⟨w.heap.size, 9, none⟩) (Blk.lt k0)).trans (Blk.cell k0 9)
  have a10 : ∀ W, Below wx.heap.size wx W → W.cell? ⟨w.heap.size, 10, none⟩ = some (.slice rA rn rc) := fun W hW => (hW.cell (p := ⟨w.heap.size, 10, none⟩) (Blk.lt k0)).trans (Blk.cell k0 10)
  have b0 : ∀ W, Below wx.heap.size wx W → W.cell? ⟨w.heap.size + 1, 0, none⟩ = some (.int .i64 code) := fun W hW => (hW.cell (p := ⟨w.heap.size + 1, 0, none⟩) (Blk.lt k1)).trans (Blk.cell k1 0)
  have b1 : ∀ W, Below wx.heap.size wx W → W.cell? ⟨w.heap.size + 1, 1, none⟩ = some (.int .i64 who) := fun W hW => (hW.cell (p := ⟨w.heap.size + 1, 1, none⟩) (Blk.lt k1)).trans (Blk.cell k1 1)
  have b2 : ∀ W, Below wx.heap.size wx W → W.cell? ⟨w.heap.size + 1, 2, none⟩ = some (.int .i64 q0) := fun W hW => (hW.cell (p := ⟨w.heap.size + 1, 2, none⟩) (Blk.lt k1)).trans (Blk.cell k1 2)
  have b3 : ∀ W, Below wx.heap.size wx W → W.cell? ⟨w.heap.size + 1, 3, none⟩ = some (.int .i64 q1) := fun W hW => (hW.cell (p := ⟨w.heap.size + 1, 3, none⟩) (Blk.lt k1)).trans (Blk.cell k1 3)
  have b4 : ∀ W, Below wx.heap.size wx W → W.cell? ⟨w.heap.size + 1, 4, none⟩ = some (.int .i64 q2) := fun W hW => (hW.cell (p := ⟨w.heap.size + 1, 4, none⟩) (Blk.lt k1)).trans (Blk.cell k1 4)
  have b5 : ∀ W, Below wx.heap.size wx W → W.cell? ⟨w.heap.size + 1, 5, none⟩ = some (.int .i64 q3) := fun W hW => (hW.cell (p := ⟨w.heap.size + 1, 5, none⟩) (Blk.lt k1)).trans (Blk.cell k1 5)
  have b6 : ∀ W, Below wx.heap.size wx W → W.cell? ⟨w.heap.size + 1, 6, none⟩ = some (.int .i64 q4) := fun W hW => (hW.cell (p := ⟨w.heap.size + 1, 6, none⟩) (Blk.lt k1)).trans (Blk.cell k1 6)
  have b7 : ∀ W, Below wx.heap.size wx W → W.cell? ⟨w.heap.size + 1, 7, none⟩ = some (.int .i64 value) := fun W hW => (hW.cell (p := ⟨w.heap.size + 1, 7, none⟩) (Blk.lt k1)).trans (Blk.cell k1 7)
  have b8 : ∀ W, Below wx.heap.size wx W → W.cell? ⟨w.heap.size + 1, 8, none⟩ = some (.slice sA' sn sc') := fun W hW => (hW.cell (p := ⟨w.heap.size + 1, 8, none⟩) (Blk.lt k1)).trans (Blk.cell k1 8)
  have b9 : ∀ W, Below wx.heap.size wx W → W.cell? ⟨w.heap.size + 1, 9, none⟩ = some (.slice fA' fn fc') := fun W hW => (hW.cell (p := ⟨w.heap.size + 1, 9, none⟩) (Blk.lt k1)).trans (Blk.cell k1 9)
  have b10 : ∀ W, Below wx.heap.size wx W → W.cell? ⟨w.heap.size + 1, 10, none⟩ = some (.slice rA' rn rc') := fun W hW => (hW.cell (p := ⟨w.heap.size + 1, 10, none⟩) (Blk.lt k1)).trans (Blk.cell k1 10)
  have HF := hide (fun W (hW : Below w.heap.size w W) => sameBytes_row fA fA' fn fc fc' frame B W fl (by unfold maxLen at fm; omega) (fr.below (hW.mono hB)) (fr'.below (hW.mono hB)))
  have HRP := hide (fun W (hW : Below w.heap.size w W) => sameInts_row rA rA' rn rc rc' report B W rl (by unfold maxLen at rm; omega) (rr.below (hW.mono hB)) (rr'.below (hW.mono hB)))
  have HSR := hide (sr.below (hbx.mono hB))
  have HSR' := hide (sr'.below (hbx.mono hB))
  have HSL := hide sl
  have hsn : sn ≤ 9223372036854775807 := by unfold maxLen at sm; omega
  have HBX := hide hbx
  have HWX : Hid (wx = _) := hide hwx
  rw [hw1] at hwx
  have HWX2 := hide hwx
  have hz0 : Below wx.heap.size wx wx := Below.refl _ _
  clear hb1 hbx hwx hs1 k0 k1 sl sr sc1 sm fl fr fc1 fm rl rr rc1 rm sl' sr' sc1' sm' fl' fr' fc1' fm' rl' rr' rc1' rm' HWX
  go_enter Try.func53, Try.ntmps53
  go_wp2_with fail
  rw [← unhide HWX2]
  refine (unhide HF wx (unhide HBX)).mono ?_
  rintro _ w2 ⟨rfl, nq, hw2⟩
  have hz2 : Below wx.heap.size wx w2 := by rw [← hw2]; exact below_drewN (Below.refl _ _) nq
  clear hw2 hz0
  go_wp2_with fail
  refine (unhide HRP w2 ((unhide HBX).trans (hz2.mono (unhide HBX).size))).mono ?_
  rintro _ w3 ⟨rfl, nq3, hw3⟩
  have hz3 : Below wx.heap.size wx w3 := by rw [← hw3]; exact below_drewN hz2 nq3
  clear hw3 hz2
  go_wp2_with fail
  go_loopw [5] (fun i wr => ∃ k : Nat, k ≤ sn ∧ i = .int .i64 k ∧ Below wx.heap.size wx wr) (fun i _ => sn - (intOf i).toNat)
  case atStart => exact ⟨0, Nat.zero_le _, rfl, hz3⟩
  case round =>
    obtain ⟨k, hk, rfl, hz4⟩ := hrel
    clear hz3
    by_cases hlt : k < sn
    · obtain ⟨b, o, e, rfl, hbl, he, hc⟩ := at_row Envl.cells_len (by omega) ((unhide HSR).below (hz4.mono (Nat.le_trans hB (unhide HBX).size))) hlt (unhide HSL)
      obtain ⟨b', o', e', rfl, hbl', he', hc'⟩ := at_row Envl.cells_len (by omega) ((unhide HSR').below (hz4.mono (Nat.le_trans hB (unhide HBX).size))) hlt (unhide HSL)
      obtain rfl : e = e' := by rw [he] at he'; injection he'
      have c0 := hc 0 _ rfl
      have c1 := hc 1 _ rfl
      have c2 := hc 2 _ rfl
      have c3 := hc 3 _ rfl
      have d0 := hc' 0 _ rfl
      have d1 := hc' 1 _ rfl
      have d2 := hc' 2 _ rfl
      have d3 := hc' 3 _ rfl
      simp only [Nat.add_zero] at c0 d0
      have hkn : (k : Int) < (sn : Int) := by omega
      clear he he' hbl hbl' hc hc'
      go_wp2_with fail
      go_quiet (fail)
      go_wp2_with fail
      go_roundw
      case rel => exact ⟨k + 1, by omega, by go_num, below_drewN hz4 nq⟩
      case measure => simp [intOf]; omega
    · obtain rfl : k = sn := by omega
      go_wp2_with fail
      go_ret
      exact ⟨rfl, (unhide HBX).trans (hz4.mono (unhide HBX).size)⟩

theorem sameTolds_any (A A' : Option Addr) (n c c' : Nat) (l l' : List Tol) (B : Nat) (w : World) (hl : l.length = n) (hd : l.map (·.d) = l'.map (·.d)) (hm : n ≤ 9223372036854775807) (hr : Reads w B 11 A n (l.flatMap Tol.cells)) (hr' : Reads w B 11 A' n (l'.flatMap Tol.cells))
    (hok : ∀ t ∈ l, t.ok w B) (hok' : ∀ t ∈ l', t.ok w B) (hB : B ≤ w.heap.size) :
    Calls Try.prog 24 #[.slice A n c, .slice A' n c'] w fun e w' => e = .returned (.bool true) ∧ Below w.heap.size w w' := by
  have HR := hide hr
  have HR' := hide hr'
  have HL := hide hl
  have HL' := hide (show l'.length = n by have := congrArg List.length hd; simp at this; omega)
  have HD := hide hd
  have HOK := hide hok
  have HOK' := hide hok'
  clear hr hr' hl hd hok hok'
  go_enter Try.func24, Try.ntmps24
  go_wp2_with fail
  go_loopw [5] (fun i wr => ∃ k : Nat, k ≤ n ∧ i = .int .i64 k ∧ Below w.heap.size w wr) (fun i _ => n - (intOf i).toNat)
  case atStart => exact ⟨0, Nat.zero_le _, rfl, Below.refl _ _⟩
  case round =>
    obtain ⟨k, hk, rfl, hb⟩ := hrel
    by_cases hlt : k < n
    · obtain ⟨b, o, t, rfl, _, ht, hc⟩ := at_row Tol.cells_len (by omega) ((unhide HR).below (hb.mono hB)) hlt (unhide HL)
      obtain ⟨b', o', t', rfl, _, ht', hc'⟩ := at_row Tol.cells_len (by omega) ((unhide HR').below (hb.mono hB)) hlt (unhide HL')
      have hdd : t.d = t'.d := by
        have h := congrArg (fun l => l[k]?) (unhide HD)
        simp only [List.getElem?_map, ht, ht', Option.map_some] at h
        injection h
      have HS := hide (fun W (hW : Below wr.heap.size wr W) => sameTold_any t t' B W hdd ((unhide HOK t (List.mem_of_getElem? ht)).below ((hb.mono hB).trans (hW.mono (Nat.le_trans hB hb.size)))) ((unhide HOK' t' (List.mem_of_getElem? ht')).below ((hb.mono hB).trans (hW.mono (Nat.le_trans hB hb.size)))) (Nat.le_trans hB (Nat.le_trans hb.size hW.size)))
      obtain ⟨⟨code, who, ⟨q0, q1, q2, q3, q4⟩, value, sent, frame, report⟩, sA, sn, sc, fA, fn, fc, rA, rn, rc⟩ := t
      obtain ⟨⟨code', who', ⟨q0', q1', q2', q3', q4'⟩, value', sent', frame', report'⟩, sA', sn', sc', fA', fn', fc', rA', rn', rc'⟩ := t'
      unfold Tol.val at HS
      dsimp only at HS
      have c0 := hc 0 _ rfl
      have c1 := hc 1 _ rfl
      have c2 := hc 2 _ rfl
      have c3 := hc 3 _ rfl
      have c4 := hc 4 _ rfl
      have c5 := hc 5 _ rfl
      have c6 := hc 6 _ rfl
      have c7 := hc 7 _ rfl
      have c8 := hc 8 _ rfl
      have c9 := hc 9 _ rfl
      have c10 := hc 10 _ rfl
      simp only [Nat.add_zero] at c0
      have cc0 := fun n : Ext wr => n.cell c0
      have cc1 := fun n : Ext wr => n.cell c1
      have cc2 := fun n : Ext wr => n.cell c2
      have cc3 := fun n : Ext wr => n.cell c3
      have cc4 := fun n : Ext wr => n.cell c4
      have cc5 := fun n : Ext wr => n.cell c5
      have cc6 := fun n : Ext wr => n.cell c6
      have cc7 := fun n : Ext wr => n.cell c7
      have cc8 := fun n : Ext wr => n.cell c8
      have cc9 := fun n : Ext wr => n.cell c9
      have cc10 := fun n : Ext wr => n.cell c10
      dsimp only at cc0 cc1 cc2 cc3 cc4 cc5 cc6 cc7 cc8 cc9 cc10
      clear c0 c1 c2 c3 c4 c5 c6 c7 c8 c9 c10
      have d0 := hc' 0 _ rfl
      have d1 := hc' 1 _ rfl
      have d2 := hc' 2 _ rfl
      have d3 := hc' 3 _ rfl
      have d4 := hc' 4 _ rfl
      have d5 := hc' 5 _ rfl
      have d6 := hc' 6 _ rfl
      have d7 := hc' 7 _ rfl
      have d8 := hc' 8 _ rfl
      have d9 := hc' 9 _ rfl
      have d10 := hc' 10 _ rfl
      simp only [Nat.add_zero] at d0
      have dd0 := fun n : Ext wr => n.cell d0
      have dd1 := fun n : Ext wr => n.cell d1
      have dd2 := fun n : Ext wr => n.cell d2
      have dd3 := fun n : Ext wr => n.cell d3
      have dd4 := fun n : Ext wr => n.cell d4
      have dd5 := fun n : Ext wr => n.cell d5
      have dd6 := fun n : Ext wr => n.cell d6
      have dd7 := fun n : Ext wr => n.cell d7
      have dd8 := fun n : Ext wr => n.cell d8
      have dd9 := fun n : Ext wr => n.cell d9
      have dd10 := fun n : Ext wr => n.cell d10
      dsimp only at dd0 dd1 dd2 dd3 dd4 dd5 dd6 dd7 dd8 dd9 dd10
      clear d0 d1 d2 d3 d4 d5 d6 d7 d8 d9 d10
      have hkn : (k : Int) < (n : Int) := by omega
      have HB := hide hb
      clear ht ht' hc hc' hdd hb
      go_wp2_with fail
      refine wp_region_calm (by kernel_rfl) (by kernel_rfl) ?_
      repeat (go_big_quiet_step ((go_at_call 53; exact calm_call (unhide HS _ (Ext.h _)))))
      refine wpQuiet_nil ?_
      rintro _ ⟨nq, rfl⟩
      go_wp2_with fail
      go_roundw
      case rel => exact ⟨k + 1, by omega, by go_num, (unhide HB).trans (nq.h.mono (unhide HB).size)⟩
      case measure => simp [intOf]; omega
    · obtain rfl : k = n := by omega
      go_wp2_with fail
      go_ret
      exact ⟨rfl, hb⟩
end Go.Proofs.Ytbkciniikahjhaa
