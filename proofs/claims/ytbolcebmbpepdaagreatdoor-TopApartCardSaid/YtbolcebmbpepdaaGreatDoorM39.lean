/- Contracts and plain facts, set together by program out of smaller texts. Conditions: none beyond what each theorem states. -/
import Derived.Test.YtbolcebmbpepdaaGreatDoorM38
import Derived.Test.YtbolcebmbpepdaaGreatDoorM35
namespace Go.Proofs.YtbolcebmbpepdaaGreatDoor
set_option linter.unusedVariables false
section
open Go.RowKit
def StR (c : Cfg) (y : Lay) (i p : Nat) (cs : Array Value) (W : World) : Prop := W.cell? ⟨y.hb, 5, none⟩ = some (.slice (some ⟨y.bb, 0, none⟩) c.n y.bc) ∧ W.cell? ⟨y.bb, i, none⟩ = some (.pointer (some ⟨(y.br i).b, 0, none⟩)) ∧ Blk W p 48 cs
def StCut (w : World) (c : Cfg) (y : Lay) (K base : Nat) (ow : Nat → Tag) (p q b : Nat) (cs : Array Value) (r : TolD × WS) (t : Tol) (W : World) : Prop :=
 ∃ ow', PW W c y r.2 K base ow' ∧ Kept w W ow ow' ∧ ow' q = .no ∧ ow' b = .no ∧ w.heap.size ≤ b ∧ b ≠ q ∧ b ≠ p ∧ Blk W q 57 (tol0 0 0).cells.toArray ∧ Blk W b 57 t.cells.toArray ∧ Blk W p 48 cs ∧ TolNo t ow' ∧ t.d = r.1 ∧ (∀ v, (v = Value.slice t.sA t.sn t.sc ∨ v = Value.slice t.fA t.fn t.fc ∨ v = Value.slice t.rA t.rn t.rc) → v.ownBlock ≠ some b) ∧ ∃ B, TolOwn t W B ∧ q < B ∧ w.heap.size ≤ B
def zZb : OT := .fork (.next 10 (.next 11 (.next 12 .done))) (.next 11 (.next 10 (.next 12 .done)))
section
variable {w W : World} {c : Cfg} {y : Lay} {S : WS} {K base : Nat} {ow : Nat → Tag}
theorem zJu {S' : WS} {ow' : Nat → Tag} {i p : Nat} {cs : Array Value} (hp : PW W c y S' K base ow') (hi : i < c.n) (hk : Blk W p 48 cs) : StR c y i p cs W := by
 obtain ⟨ds, h1, h2⟩ := (hp.pc .con).row
 exact ⟨(hp.pc .con).blk.cell 5, (h1.cell i).trans (h2 i hi), hk⟩
theorem zOn {t : Tol} {w w' : World} {B b : Nat} {ow1 : Nat → Tag} (h : TolOwn t w B) (hn : TolNo t ow1) (ho : Only (fun k => k = b) w w') (hb : ∀ v, (v = Value.slice t.sA t.sn t.sc ∨ v = Value.slice t.fA t.fn t.fc ∨ v = Value.slice t.rA t.rn t.rc) → v.ownBlock ≠ some b) : TolOwn t w' B :=
 ⟨zAk h.so ho (fun g hg e => hb _ (.inl rfl) (by rw [hg, e])), zAk h.fo ho (fun g hg e => hb _ (.inr (.inl rfl)) (by rw [hg, e])), zAk h.ro ho (fun g hg e => hb _ (.inr (.inr rfl)) (by rw [hg, e]))⟩
theorem zWe {w7 : World} {ow7 : Nat → Tag} {p q b B : Nat} {cs zs : Array Value} {r : TolD × WS} {t : Tol} (hp : PW w7 c y r.2 K base ow7) (hk : Kept w w7 ow ow7) (hq : ow7 q = .no) (hb : ow7 b = .no) (hbw : w.heap.size ≤ b) (hbq : b ≠ q) (hbp : b ≠ p) (hQ : Blk w7 q 57 (tol0 0 0).cells.toArray) (hB : Blk w7 b 57 zs) (hz : zs.size = 11) (hP : Blk w7 p 48 cs) (hto : TolOwn t w7 B) (htn : TolNo t ow7) (hd : t.d = r.1) (hbB : ∀ v, (v = Value.slice t.sA t.sn t.sc ∨ v = Value.slice t.fA t.fn t.fc ∨ v = Value.slice t.rA t.rn t.rc) → v.ownBlock ≠ some b) (hw : base ≤ w.heap.size) :
    ∃ ow', PW (wrT w7 b t) c y r.2 K base ow' ∧ Kept w (wrT w7 b t) ow ow' ∧ ow' q = .no ∧ ow' b = .no ∧ Blk (wrT w7 b t) q 57 (tol0 0 0).cells.toArray ∧ Blk (wrT w7 b t) b 57 t.cells.toArray ∧ Blk (wrT w7 b t) p 48 cs ∧ TolOwn t (wrT w7 b t) B ∧ TolNo t ow' := by
 have ho := zBk w7 b t
 refine ⟨ow7, hp.own ho hb (Nat.le_trans hw hbw), ⟨hk.only.trans ho (fun x hx e => by omega), hk.old⟩, hq, hb, hQ.only ho (fun e => hbq e.symm), zCc hB hz t, hP.only ho (fun e => hbp e.symm), zOn hto htn ho hbB, htn⟩
def whoT (t : Tol) (i : Int) : Tol := { t with d := { t.d with who := i } }
theorem yDq (t : Tol) (i : Int) : t.cells.toArray.setIfInBounds 1 (.int .i64 i) = (whoT t i).cells.toArray := by
 simp [Tol.cells, whoT]
theorem zZp (c : Cfg) (S : WS) (s : StpI) (i : Nat) : (zBu c S s i).1.who = i := by
 unfold zBu
 split
 ·rfl
 split
 ·rfl
 split
 ·rfl
 split <;> rfl
theorem zXw (c : Cfg) (S : WS) (s : StpI) (i : Nat) : (zAz c S s i).1.who = i := by
 unfold zAz
 split
 ·exact zZp c S s i
 split
 ·rfl
 split
 ·split
  ·rfl
  split <;> rfl
 ·rfl
set_option maxRecDepth 100000 in
set_option maxHeartbeats 4000000 in
theorem yCh (h : PW w c y S K base ow) (N : Nat) (hS : S.ok c N) (hN : N ≤ 10000) (hK : K < 1000000) (s : StpI) (hk : s.kind = 9) :
    Calls Tryz.prog 40 #[.pointer (some ⟨y.hb, 0, none⟩), s.val] w (zBo w c y (K + 1) base ow (stepW c S s)) := by
 have HE := hide (show stepW c S s = zGj c S from if_pos hk)
 obtain ⟨kind, who, item, count, life, id, label, key⟩ := s
 dsimp only at hk
 unfold StpI.val
 dsimp only
 obtain ⟨p, hp⟩ : ∃ p, p = w.heap.size := ⟨_, rfl⟩
 obtain ⟨q, hq⟩ : ∃ q, q = w.heap.size + 1 := ⟨_, rfl⟩
 obtain ⟨wx, hwx⟩ : ∃ wx, wx = (w.alloc (.cells #[.int .i64 kind, .int .i64 who, .int .i64 item, .int .i64 count, .int .i64 life, .int .i64 id, .int .i64 label, .int .i64 key] 48)).alloc (.cells (tol0 0 0).cells.toArray 57) := ⟨_, rfl⟩
 have hbx : Below w.heap.size w wx := by rw [hwx]; exact ((Below.refl _ _).alloc (Nat.le_refl _) _).alloc (by simp) _
 have kp : Blk wx p 48 #[.int .i64 kind, .int .i64 who, .int .i64 item, .int .i64 count, .int .i64 life, .int .i64 id, .int .i64 label, .int .i64 key] := by rw [hwx, hp]; exact (Blk.new w _ _).alloc _
 have kq : Blk wx q 57 (tol0 0 0).cells.toArray := by
  have h1 := Blk.new (w.alloc (.cells #[.int .i64 kind, .int .i64 who, .int .i64 item, .int .i64 count, .int .i64 life, .int .i64 id, .int .i64 label, .int .i64 key] 48)) 57 (tol0 0 0).cells.toArray
  rw [hwx, hq]
  simpa using h1
 have hx := h.calm hbx
 have HNO := hide (fun e W => zCi e W)
 unfold tol0 zAy Tol.val Stk.none at HNO
 dsimp only at HNO
 have s0 : wx.cell? ⟨p, 0, none⟩ = some (.int .i64 kind) := kp.cell 0
 have s1 : wx.cell? ⟨p, 1, none⟩ = some (.int .i64 who) := kp.cell 1
 have s2 : wx.cell? ⟨p, 2, none⟩ = some (.int .i64 item) := kp.cell 2
 have s3 : wx.cell? ⟨p, 3, none⟩ = some (.int .i64 count) := kp.cell 3
 have s4 : wx.cell? ⟨p, 4, none⟩ = some (.int .i64 life) := kp.cell 4
 have s5 : wx.cell? ⟨p, 5, none⟩ = some (.int .i64 id) := kp.cell 5
 have s6 : wx.cell? ⟨p, 6, none⟩ = some (.int .i64 label) := kp.cell 6
 have s7 : wx.cell? ⟨p, 7, none⟩ = some (.int .i64 key) := kp.cell 7
 have HX := hide hx
 have HKP := hide kp
 have HKQ := hide kq
 have HBX := hide hbx
 have HP := hide hp
 have HQ := hide hq
 have HH := hide h
 have HWX := hide hwx
 have HNQ := hide (show ow q = .no from h.fresh q (by omega))
 have HNP := hide (show ow p = .no from h.fresh p (by omega))
 have hm3 := (zAj h.may).2.2.2.1
 have HTI := hide (tick_any hx N hS hN)
 clear hx kp kq hbx hp hq h hwx s1 s2 s3 s4 s5 s6 s7
 have a9 : (kind == 9) = true := by simp; omega
 have HKD := hide hk
 clear hk
 go_enter Tryz.func40, Tryz.ntmps40
 go_upto_region 1 with fail
 rw [show (#[.int .i64 0, .int .i64 0, .int .i64 0, .int .i64 0, .int .i64 0, .int .i64 0, .int .i64 0, .int .i64 0, .slice none 0 0, .slice none 0 0, .slice none 0 0] : Array Value) = (tol0 0 0).cells.toArray from rfl, ← zAa HWX, ← zAa HQ, ← zAa HP]
 go_wp2_with fail
 refine (zAa HTI).mono ?_
 rintro _ w2 ⟨t, rfl, hd, hto, ow2, hp2, hk2, hn2⟩
 have HK2 := hide (hk2.blk (zAa HKQ) (zAa HNQ))
 have HP2 := hide (hp2.more (Nat.le_succ K))
 have HKK := hide ((Kept.calm (zAa HBX)).trans hk2)
 have HN2 := hide (show ow2 q = .no from (hk2.old q (zAa HKQ).lt).trans (zAa HNQ))
 have HTO := hide hto
 have HTN := hide hn2
 have HTD := hide hd
 unfold Tol.val
 clear hp2 hk2 hto hn2 hd
 obtain ⟨g0, g1, g2, g3, g4, g5, g6, g7, g8, g9, g10⟩ := zBl (zAa HK2)
 obtain ⟨f0, f1, f2, f3, f4, f5, f6, f7, f8, f9, f10⟩ := zBi (zAa HK2)
 go_wp2_with fail
 change bodyPost _ _ _ _ _ (wrT w2 q t)
 have k9 := zCc (zAa HK2) rfl t
 have HO9 := hide (zBk w2 q t)
 clear g0 g1 g2 g3 g4 g5 g6 g7 g8 g9 g10 f0 f1 f2 f3 f4 f5 f6 f7 f8 f9 f10
 generalize wrT w2 q t = w9 at k9 HO9 ⊢
 obtain ⟨d0, d1, d2, d3, d4, d5, d6, d7, d8, d9, d10⟩ := zAt k9
 refine bodyPost_ret (v := (t).val) (by simp [results, Tryz.results40, go_sem, d0, d1, d2, d3, d4, d5, d6, d7, d8, d9, d10, Tol.val]) rfl (zDv (zAa HP2) (zAa HKK) (zAa HTO) (zAa HKQ).lt (zAa HBX).size (zAa HO9) (by rw [zAa HQ]; omega) (zAa HN2) (zAa HTN) ((zAa HTD).trans (by rw [zAa HE])) (by rw [zAa HE]) (zAa HH).bw)
set_option maxRecDepth 100000 in
set_option maxHeartbeats 4000000 in
theorem zUt (h : PW w c y S K base ow) (N : Nat) (hS : S.ok c N) (hN : N ≤ 10000) (hK : K < 1000000) (s : StpI) (hwf : (Lit.int .i64 s.id).wf = true) (hk : s.kind = 10) :
    Calls Tryz.prog 40 #[.pointer (some ⟨y.hb, 0, none⟩), s.val] w (zBo w c y (K + 1) base ow (stepW c S s)) := by
 have HE := hide (show stepW c S s = zCj c S s.id by unfold stepW; rw [if_neg (by omega), if_pos hk])
 obtain ⟨kind, who, item, count, life, id, label, key⟩ := s
 dsimp only at hk
 unfold StpI.val
 dsimp only
 obtain ⟨p, hp⟩ : ∃ p, p = w.heap.size := ⟨_, rfl⟩
 obtain ⟨q, hq⟩ : ∃ q, q = w.heap.size + 1 := ⟨_, rfl⟩
 obtain ⟨wx, hwx⟩ : ∃ wx, wx = (w.alloc (.cells #[.int .i64 kind, .int .i64 who, .int .i64 item, .int .i64 count, .int .i64 life, .int .i64 id, .int .i64 label, .int .i64 key] 48)).alloc (.cells (tol0 0 0).cells.toArray 57) := ⟨_, rfl⟩
 have hbx : Below w.heap.size w wx := by rw [hwx]; exact ((Below.refl _ _).alloc (Nat.le_refl _) _).alloc (by simp) _
 have kp : Blk wx p 48 #[.int .i64 kind, .int .i64 who, .int .i64 item, .int .i64 count, .int .i64 life, .int .i64 id, .int .i64 label, .int .i64 key] := by rw [hwx, hp]; exact (Blk.new w _ _).alloc _
 have kq : Blk wx q 57 (tol0 0 0).cells.toArray := by
  have h1 := Blk.new (w.alloc (.cells #[.int .i64 kind, .int .i64 who, .int .i64 item, .int .i64 count, .int .i64 life, .int .i64 id, .int .i64 label, .int .i64 key] 48)) 57 (tol0 0 0).cells.toArray
  rw [hwx, hq]
  simpa using h1
 have hx := h.calm hbx
 have HNO := hide (fun e W => zCi e W)
 unfold tol0 zAy Tol.val Stk.none at HNO
 dsimp only at HNO
 have s0 : wx.cell? ⟨p, 0, none⟩ = some (.int .i64 kind) := kp.cell 0
 have s1 : wx.cell? ⟨p, 1, none⟩ = some (.int .i64 who) := kp.cell 1
 have s2 : wx.cell? ⟨p, 2, none⟩ = some (.int .i64 item) := kp.cell 2
 have s3 : wx.cell? ⟨p, 3, none⟩ = some (.int .i64 count) := kp.cell 3
 have s4 : wx.cell? ⟨p, 4, none⟩ = some (.int .i64 life) := kp.cell 4
 have s5 : wx.cell? ⟨p, 5, none⟩ = some (.int .i64 id) := kp.cell 5
 have s6 : wx.cell? ⟨p, 6, none⟩ = some (.int .i64 label) := kp.cell 6
 have s7 : wx.cell? ⟨p, 7, none⟩ = some (.int .i64 key) := kp.cell 7
 have HX := hide hx
 have HKP := hide kp
 have HKQ := hide kq
 have HBX := hide hbx
 have HP := hide hp
 have HQ := hide hq
 have HH := hide h
 have HWX := hide hwx
 have HNQ := hide (show ow q = .no from h.fresh q (by omega))
 have HNP := hide (show ow p = .no from h.fresh p (by omega))
 have hm3 := (zAj h.may).2.2.2.1
 dsimp only at hwf HE
 have HTI := hide (zYi hx N hS hN hK id hwf)
 clear hx kp kq hbx hp hq h hwx s1 s2 s3 s4 s6 s7
 have a9 : (kind == 9) = false := by simp; omega
 have a10 : (kind == 10) = true := by simp; omega
 have HKD := hide hk
 clear hk
 go_enter Tryz.func40, Tryz.ntmps40
 go_upto_region 1 with fail
 rw [show (#[.int .i64 0, .int .i64 0, .int .i64 0, .int .i64 0, .int .i64 0, .int .i64 0, .int .i64 0, .int .i64 0, .slice none 0 0, .slice none 0 0, .slice none 0 0] : Array Value) = (tol0 0 0).cells.toArray from rfl, ← zAa HWX, ← zAa HQ, ← zAa HP]
 go_wp2_with fail
 refine (zAa HTI).mono ?_
 rintro _ w2 ⟨t, rfl, hd, hto, ow2, hp2, hk2, hn2⟩
 have HK2 := hide (hk2.blk (zAa HKQ) (zAa HNQ))
 have HP2 := hide (hp2)
 have HKK := hide ((Kept.calm (zAa HBX)).trans hk2)
 have HN2 := hide (show ow2 q = .no from (hk2.old q (zAa HKQ).lt).trans (zAa HNQ))
 have HTO := hide hto
 have HTN := hide hn2
 have HTD := hide hd
 unfold Tol.val
 clear hp2 hk2 hto hn2 hd
 obtain ⟨g0, g1, g2, g3, g4, g5, g6, g7, g8, g9, g10⟩ := zBl (zAa HK2)
 obtain ⟨f0, f1, f2, f3, f4, f5, f6, f7, f8, f9, f10⟩ := zBi (zAa HK2)
 go_wp2_with fail
 change bodyPost _ _ _ _ _ (wrT w2 q t)
 have k9 := zCc (zAa HK2) rfl t
 have HO9 := hide (zBk w2 q t)
 clear g0 g1 g2 g3 g4 g5 g6 g7 g8 g9 g10 f0 f1 f2 f3 f4 f5 f6 f7 f8 f9 f10
 generalize wrT w2 q t = w9 at k9 HO9 ⊢
 obtain ⟨d0, d1, d2, d3, d4, d5, d6, d7, d8, d9, d10⟩ := zAt k9
 refine bodyPost_ret (v := (t).val) (by simp [results, Tryz.results40, go_sem, d0, d1, d2, d3, d4, d5, d6, d7, d8, d9, d10, Tol.val]) rfl (zDv (zAa HP2) (zAa HKK) (zAa HTO) (zAa HKQ).lt (zAa HBX).size (zAa HO9) (by rw [zAa HQ]; omega) (zAa HN2) (zAa HTN) ((zAa HTD).trans (by rw [zAa HE])) (by rw [zAa HE]) (zAa HH).bw)
set_option maxRecDepth 100000 in
set_option maxHeartbeats 4000000 in
theorem yDj (h : PW w c y S K base ow) (N : Nat) (hS : S.ok c N) (hN : N ≤ 10000) (hK : K < 1000000) (s : StpI) (hwf : (Lit.int .i64 s.id).wf = true) (hk : s.kind = 11) :
    Calls Tryz.prog 40 #[.pointer (some ⟨y.hb, 0, none⟩), s.val] w (zBo w c y (K + 1) base ow (stepW c S s)) := by
 have HE := hide (show stepW c S s = if dueW S s.id = 0 then (zAy 0 0, S.lose s.id) else (zAy (dueW S s.id) 0, S) by unfold stepW; rw [if_neg (by omega), if_neg (by omega), if_pos hk])
 obtain ⟨kind, who, item, count, life, id, label, key⟩ := s
 dsimp only at hk
 unfold StpI.val
 dsimp only
 obtain ⟨p, hp⟩ : ∃ p, p = w.heap.size := ⟨_, rfl⟩
 obtain ⟨q, hq⟩ : ∃ q, q = w.heap.size + 1 := ⟨_, rfl⟩
 obtain ⟨wx, hwx⟩ : ∃ wx, wx = (w.alloc (.cells #[.int .i64 kind, .int .i64 who, .int .i64 item, .int .i64 count, .int .i64 life, .int .i64 id, .int .i64 label, .int .i64 key] 48)).alloc (.cells (tol0 0 0).cells.toArray 57) := ⟨_, rfl⟩
 have hbx : Below w.heap.size w wx := by rw [hwx]; exact ((Below.refl _ _).alloc (Nat.le_refl _) _).alloc (by simp) _
 have kp : Blk wx p 48 #[.int .i64 kind, .int .i64 who, .int .i64 item, .int .i64 count, .int .i64 life, .int .i64 id, .int .i64 label, .int .i64 key] := by rw [hwx, hp]; exact (Blk.new w _ _).alloc _
 have kq : Blk wx q 57 (tol0 0 0).cells.toArray := by
  have h1 := Blk.new (w.alloc (.cells #[.int .i64 kind, .int .i64 who, .int .i64 item, .int .i64 count, .int .i64 life, .int .i64 id, .int .i64 label, .int .i64 key] 48)) 57 (tol0 0 0).cells.toArray
  rw [hwx, hq]
  simpa using h1
 have hx := h.calm hbx
 have HNO := hide (fun e W => zCi e W)
 unfold tol0 zAy Tol.val Stk.none at HNO
 dsimp only at HNO
 have s0 : wx.cell? ⟨p, 0, none⟩ = some (.int .i64 kind) := kp.cell 0
 have s1 : wx.cell? ⟨p, 1, none⟩ = some (.int .i64 who) := kp.cell 1
 have s2 : wx.cell? ⟨p, 2, none⟩ = some (.int .i64 item) := kp.cell 2
 have s3 : wx.cell? ⟨p, 3, none⟩ = some (.int .i64 count) := kp.cell 3
 have s4 : wx.cell? ⟨p, 4, none⟩ = some (.int .i64 life) := kp.cell 4
 have s5 : wx.cell? ⟨p, 5, none⟩ = some (.int .i64 id) := kp.cell 5
 have s6 : wx.cell? ⟨p, 6, none⟩ = some (.int .i64 label) := kp.cell 6
 have s7 : wx.cell? ⟨p, 7, none⟩ = some (.int .i64 key) := kp.cell 7
 have HX := hide hx
 have HKP := hide kp
 have HKQ := hide kq
 have HBX := hide hbx
 have HP := hide hp
 have HQ := hide hq
 have HH := hide h
 have HWX := hide hwx
 have HNQ := hide (show ow q = .no from h.fresh q (by omega))
 have HNP := hide (show ow p = .no from h.fresh p (by omega))
 have hm3 := (zAj h.may).2.2.2.1
 dsimp only at hwf HE
 have hlen : S.lts.length ≤ 1000000 := by have := hS.len; omega
 have HDU := hide (zOa hx id hwf hlen)
 clear hx kp kq hbx hp hq h hwx s1 s2 s3 s4 s6 s7
 have a9 : (kind == 9) = false := by simp; omega
 have a10 : (kind == 10) = false := by simp; omega
 have a11 : (kind == 11) = true := by simp; omega
 have HKD := hide hk
 clear hk
 obtain ⟨e, he⟩ : ∃ e, e = dueW S id := ⟨_, rfl⟩
 rw [← he] at HDU HE
 clear he
 go_enter Tryz.func40, Tryz.ntmps40
 go_upto_region 1 with fail
 rw [show (#[.int .i64 0, .int .i64 0, .int .i64 0, .int .i64 0, .int .i64 0, .int .i64 0, .int .i64 0, .int .i64 0, .slice none 0 0, .slice none 0 0, .slice none 0 0] : Array Value) = (tol0 0 0).cells.toArray from rfl, ← zAa HWX, ← zAa HQ, ← zAa HP]
 go_wp2_with fail
 refine (zAa HDU).mono ?_
 rintro _ w2 ⟨rfl, hb2⟩
 have HX2 := hide ((zAa HX).calm hb2)
 have HK2 := hide ((zAa HKQ).below hb2 (zAa HKQ).lt)
 have HP2 := hide ((zAa HKP).below hb2 (zAa HKP).lt)
 have HB2 := hide ((zAa HBX).trans (hb2.mono (zAa HBX).size))
 clear hb2 s0 s5
 by_cases he : e = 0
 ·subst he
  have HEE := hide (show stepW c S ⟨kind, who, item, count, life, id, label, key⟩ = (zAy 0 0, S.lose id) from (zAa HE).trans (if_pos rfl))
  go_upto_region 9 with fail
  have c8 := fun n : Ext w2 => n.cell (show w2.cell? ⟨y.hb, 8, none⟩ = some (.map (some y.lb)) from ((zAa HX2).pc .con).blk.cell 8)
  have s5 := fun n : Ext w2 => n.cell (show w2.cell? ⟨p, 5, none⟩ = some (.int .i64 id) from (zAa HP2).cell 5)
  refine zCy 6 (by kernel_rfl) (by kernel_rfl) ?_
  simp only [List.take_succ_cons, List.take_zero, List.drop_succ_cons, List.drop_zero]
  repeat (go_big_quiet_step (fail))
  refine wpQuiet_nil ?_
  rintro _ ⟨nq, rfl⟩
  have hq2 := nq.h
  obtain ⟨w3, hrun, ow3, hp3, hk3⟩ := PW.loseAt ((zAa HX2).calm hq2) hK id hwf
  have HK3 := hide (hk3.blk ((zAa HK2).below hq2 (zAa HK2).lt) (zAa HNQ))
  have HT3 := hide (show Turned w c y (S.lose id) (K + 1) base ow w3 from ⟨ow3, hp3, ((Kept.calm (zAa HB2)).trans (Kept.calm hq2)).trans hk3⟩)
  have HN3 := hide (show ow3 q = .no from (hk3.old q ((zAa HK2).below hq2 (zAa HK2).lt).lt).trans (zAa HNQ))
  have HP3 := hide hp3
  have HKK := hide (((Kept.calm (ow := ow) (zAa HB2)).trans (Kept.calm hq2)).trans hk3)
  clear hp3 hk3 c8 s5 hq2
  go_wp2_with fail
  refine (zAa HNO 0 w3).mono ?_
  rintro _ w6 ⟨rfl, hb6⟩
  have HK6 := hide ((zAa HK3).below hb6 (zAa HK3).lt)
  have HB6 := hide hb6
  clear hb6
  obtain ⟨g0, g1, g2, g3, g4, g5, g6, g7, g8, g9, g10⟩ := zBl (zAa HK6)
  obtain ⟨f0, f1, f2, f3, f4, f5, f6, f7, f8, f9, f10⟩ := zBi (zAa HK6)
  go_wp2_with fail
  change bodyPost _ _ _ _ _ (wrT w6 q (tol0 0 0))
  have k9 := zCc (zAa HK6) rfl (tol0 0 0)
  have HO9 := hide (zBk w6 q (tol0 0 0))
  clear g0 g1 g2 g3 g4 g5 g6 g7 g8 g9 g10 f0 f1 f2 f3 f4 f5 f6 f7 f8 f9 f10
  generalize wrT w6 q (tol0 0 0) = w9 at k9 HO9 ⊢
  obtain ⟨d0, d1, d2, d3, d4, d5, d6, d7, d8, d9, d10⟩ := zAt k9
  refine bodyPost_ret (v := ((tol0 0 0)).val) (by simp [results, Tryz.results40, go_sem, d0, d1, d2, d3, d4, d5, d6, d7, d8, d9, d10, Tol.val]) rfl (zDv ((zAa HP3).calm (zAa HB6)) ((zAa HKK).trans (Kept.calm (zAa HB6))) (zGy 0 0 w6 (q + 1)) (Nat.lt_succ_self q) (by rw [zAa HQ]; omega) (zAa HO9) (by rw [zAa HQ]; omega) (zAa HN3) (zIg _ _ _) (by rw [zAa HEE]; rfl) (by rw [zAa HEE]) (zAa HH).bw)
 ·have HEE := hide (show stepW c S ⟨kind, who, item, count, life, id, label, key⟩ = (zAy e 0, S) from (zAa HE).trans (if_neg he))
  have he0 : (e == 0) = false := by simpa using he
  go_wp2_with fail
  refine (zAa HNO e w2).mono ?_
  rintro _ w6 ⟨rfl, hb6⟩
  have HK6 := hide ((zAa HK2).below hb6 (zAa HK2).lt)
  have HB6 := hide hb6
  clear hb6
  obtain ⟨g0, g1, g2, g3, g4, g5, g6, g7, g8, g9, g10⟩ := zBl (zAa HK6)
  obtain ⟨f0, f1, f2, f3, f4, f5, f6, f7, f8, f9, f10⟩ := zBi (zAa HK6)
  go_wp2_with fail
  change bodyPost _ _ _ _ _ (wrT w6 q (tol0 e 0))
  have k9 := zCc (zAa HK6) rfl (tol0 e 0)
  have HO9 := hide (zBk w6 q (tol0 e 0))
  clear g0 g1 g2 g3 g4 g5 g6 g7 g8 g9 g10 f0 f1 f2 f3 f4 f5 f6 f7 f8 f9 f10
  generalize wrT w6 q (tol0 e 0) = w9 at k9 HO9 ⊢
  obtain ⟨d0, d1, d2, d3, d4, d5, d6, d7, d8, d9, d10⟩ := zAt k9
  refine bodyPost_ret (v := ((tol0 e 0)).val) (by simp [results, Tryz.results40, go_sem, d0, d1, d2, d3, d4, d5, d6, d7, d8, d9, d10, Tol.val]) rfl (zDv (((zAa HX2).more (Nat.le_succ K)).calm (zAa HB6)) ((Kept.calm (zAa HB2)).trans (Kept.calm (zAa HB6))) (zGy e 0 w6 (q + 1)) (Nat.lt_succ_self q) (by rw [zAa HQ]; omega) (zAa HO9) (by rw [zAa HQ]; omega) (zAa HNQ) (zIg _ _ _) (by rw [zAa HEE]; rfl) (by rw [zAa HEE]) (zAa HH).bw)
set_option maxRecDepth 100000 in
set_option maxHeartbeats 4000000 in
theorem yBv (h : PW w c y S K base ow) (N : Nat) (hS : S.ok c N) (hN : N ≤ 10000) (hK : K < 1000000) (s : StpI) (hk : s.kind < 1 ∨ 11 < s.kind) :
    Calls Tryz.prog 40 #[.pointer (some ⟨y.hb, 0, none⟩), s.val] w (zBo w c y (K + 1) base ow (stepW c S s)) := by
 have HE := hide (show stepW c S s = (zAy 3 0, S) by unfold stepW; rw [if_neg (by omega), if_neg (by omega), if_neg (by omega), if_pos hk])
 obtain ⟨kind, who, item, count, life, id, label, key⟩ := s
 dsimp only at hk
 unfold StpI.val
 dsimp only
 obtain ⟨p, hp⟩ : ∃ p, p = w.heap.size := ⟨_, rfl⟩
 obtain ⟨q, hq⟩ : ∃ q, q = w.heap.size + 1 := ⟨_, rfl⟩
 obtain ⟨wx, hwx⟩ : ∃ wx, wx = (w.alloc (.cells #[.int .i64 kind, .int .i64 who, .int .i64 item, .int .i64 count, .int .i64 life, .int .i64 id, .int .i64 label, .int .i64 key] 48)).alloc (.cells (tol0 0 0).cells.toArray 57) := ⟨_, rfl⟩
 have hbx : Below w.heap.size w wx := by rw [hwx]; exact ((Below.refl _ _).alloc (Nat.le_refl _) _).alloc (by simp) _
 have kp : Blk wx p 48 #[.int .i64 kind, .int .i64 who, .int .i64 item, .int .i64 count, .int .i64 life, .int .i64 id, .int .i64 label, .int .i64 key] := by rw [hwx, hp]; exact (Blk.new w _ _).alloc _
 have kq : Blk wx q 57 (tol0 0 0).cells.toArray := by
  have h1 := Blk.new (w.alloc (.cells #[.int .i64 kind, .int .i64 who, .int .i64 item, .int .i64 count, .int .i64 life, .int .i64 id, .int .i64 label, .int .i64 key] 48)) 57 (tol0 0 0).cells.toArray
  rw [hwx, hq]
  simpa using h1
 have hx := h.calm hbx
 have HNO := hide (fun e W => zCi e W)
 unfold tol0 zAy Tol.val Stk.none at HNO
 dsimp only at HNO
 have s0 : wx.cell? ⟨p, 0, none⟩ = some (.int .i64 kind) := kp.cell 0
 have s1 : wx.cell? ⟨p, 1, none⟩ = some (.int .i64 who) := kp.cell 1
 have s2 : wx.cell? ⟨p, 2, none⟩ = some (.int .i64 item) := kp.cell 2
 have s3 : wx.cell? ⟨p, 3, none⟩ = some (.int .i64 count) := kp.cell 3
 have s4 : wx.cell? ⟨p, 4, none⟩ = some (.int .i64 life) := kp.cell 4
 have s5 : wx.cell? ⟨p, 5, none⟩ = some (.int .i64 id) := kp.cell 5
 have s6 : wx.cell? ⟨p, 6, none⟩ = some (.int .i64 label) := kp.cell 6
 have s7 : wx.cell? ⟨p, 7, none⟩ = some (.int .i64 key) := kp.cell 7
 have HX := hide hx
 have HKP := hide kp
 have HKQ := hide kq
 have HBX := hide hbx
 have HP := hide hp
 have HQ := hide hq
 have HH := hide h
 have HWX := hide hwx
 have HNQ := hide (show ow q = .no from h.fresh q (by omega))
 have HNP := hide (show ow p = .no from h.fresh p (by omega))
 have hm3 := (zAj h.may).2.2.2.1
 clear hx kp kq hbx hp hq h hwx s1 s2 s3 s4 s5 s6 s7
 have a9 : (kind == 9) = false := by simp; omega
 have a10 : (kind == 10) = false := by simp; omega
 have a11 : (kind == 11) = false := by simp; omega
 go_enter Tryz.func40, Tryz.ntmps40
 go_upto_region 1 with fail
 rw [show (#[.int .i64 0, .int .i64 0, .int .i64 0, .int .i64 0, .int .i64 0, .int .i64 0, .int .i64 0, .int .i64 0, .slice none 0 0, .slice none 0 0, .slice none 0 0] : Array Value) = (tol0 0 0).cells.toArray from rfl, ← zAa HWX, ← zAa HQ, ← zAa HP]
 have hd : (decide (kind < 1) = true) ∨ (decide (kind < 1) = false ∧ decide (kind > 11) = true) := by
  simp only [decide_eq_true_eq, decide_eq_false_iff_not]
  omega
 rcases hd with b1 | ⟨b1, b2⟩
 all_goals
  go_wp2_with fail
  have HW := hide (Below.refl wx.heap.size wx)
  refine (zAa HNO 3 wx).mono ?_
  rintro _ w6 ⟨rfl, hb6⟩
  have HK6 := hide ((zAa HKQ).below hb6 (zAa HKQ).lt)
  have HB6 := hide hb6
  clear hb6
  obtain ⟨g0, g1, g2, g3, g4, g5, g6, g7, g8, g9, g10⟩ := zBl (zAa HK6)
  obtain ⟨f0, f1, f2, f3, f4, f5, f6, f7, f8, f9, f10⟩ := zBi (zAa HK6)
  go_wp2_with fail
  change bodyPost _ _ _ _ _ (wrT w6 q (tol0 3 0))
  have k9 := zCc (zAa HK6) rfl (tol0 3 0)
  have HO9 := hide (zBk w6 q (tol0 3 0))
  clear g0 g1 g2 g3 g4 g5 g6 g7 g8 g9 g10 f0 f1 f2 f3 f4 f5 f6 f7 f8 f9 f10
  generalize wrT w6 q (tol0 3 0) = w9 at k9 HO9 ⊢
  obtain ⟨d0, d1, d2, d3, d4, d5, d6, d7, d8, d9, d10⟩ := zAt k9
  refine bodyPost_ret (v := ((tol0 3 0)).val) (by simp [results, Tryz.results40, go_sem, d0, d1, d2, d3, d4, d5, d6, d7, d8, d9, d10, Tol.val]) rfl (zDv (((zAa HX).more (Nat.le_succ K)).calm ((zAa HW).trans ((zAa HB6).mono (zAa HW).size))) ((Kept.calm (zAa HBX)).trans (Kept.calm ((zAa HW).trans ((zAa HB6).mono (zAa HW).size)))) (zGy 3 0 w6 (q + 1)) (Nat.lt_succ_self q) (by rw [zAa HQ]; omega) (zAa HO9) (by rw [zAa HQ]; omega) (zAa HNQ) (zIg _ _ _) (by rw [zAa HE]; rfl) (by rw [zAa HE]) (zAa HH).bw)
set_option maxRecDepth 100000 in
set_option maxHeartbeats 4000000 in
theorem step_who (h : PW w c y S K base ow) (N : Nat) (hS : S.ok c N) (hN : N ≤ 10000) (hK : K < 1000000) (s : StpI) (hk : 1 ≤ s.kind ∧ s.kind ≤ 8) (hb : s.who < 0 ∨ c.br ≤ s.who) :
    Calls Tryz.prog 40 #[.pointer (some ⟨y.hb, 0, none⟩), s.val] w (zBo w c y (K + 1) base ow (stepW c S s)) := by
 have HE := hide (show stepW c S s = (zAy 2 0, S) by unfold stepW; rw [if_neg (by omega), if_neg (by omega), if_neg (by omega), if_neg (by omega), if_pos hb])
 obtain ⟨kind, who, item, count, life, id, label, key⟩ := s
 dsimp only at hk
 unfold StpI.val
 dsimp only
 obtain ⟨p, hp⟩ : ∃ p, p = w.heap.size := ⟨_, rfl⟩
 obtain ⟨q, hq⟩ : ∃ q, q = w.heap.size + 1 := ⟨_, rfl⟩
 obtain ⟨wx, hwx⟩ : ∃ wx, wx = (w.alloc (.cells #[.int .i64 kind, .int .i64 who, .int .i64 item, .int .i64 count, .int .i64 life, .int .i64 id, .int .i64 label, .int .i64 key] 48)).alloc (.cells (tol0 0 0).cells.toArray 57) := ⟨_, rfl⟩
 have hbx : Below w.heap.size w wx := by rw [hwx]; exact ((Below.refl _ _).alloc (Nat.le_refl _) _).alloc (by simp) _
 have kp : Blk wx p 48 #[.int .i64 kind, .int .i64 who, .int .i64 item, .int .i64 count, .int .i64 life, .int .i64 id, .int .i64 label, .int .i64 key] := by rw [hwx, hp]; exact (Blk.new w _ _).alloc _
 have kq : Blk wx q 57 (tol0 0 0).cells.toArray := by
  have h1 := Blk.new (w.alloc (.cells #[.int .i64 kind, .int .i64 who, .int .i64 item, .int .i64 count, .int .i64 life, .int .i64 id, .int .i64 label, .int .i64 key] 48)) 57 (tol0 0 0).cells.toArray
  rw [hwx, hq]
  simpa using h1
 have hx := h.calm hbx
 have HNO := hide (fun e W => zCi e W)
 unfold tol0 zAy Tol.val Stk.none at HNO
 dsimp only at HNO
 have s0 : wx.cell? ⟨p, 0, none⟩ = some (.int .i64 kind) := kp.cell 0
 have s1 : wx.cell? ⟨p, 1, none⟩ = some (.int .i64 who) := kp.cell 1
 have s2 : wx.cell? ⟨p, 2, none⟩ = some (.int .i64 item) := kp.cell 2
 have s3 : wx.cell? ⟨p, 3, none⟩ = some (.int .i64 count) := kp.cell 3
 have s4 : wx.cell? ⟨p, 4, none⟩ = some (.int .i64 life) := kp.cell 4
 have s5 : wx.cell? ⟨p, 5, none⟩ = some (.int .i64 id) := kp.cell 5
 have s6 : wx.cell? ⟨p, 6, none⟩ = some (.int .i64 label) := kp.cell 6
 have s7 : wx.cell? ⟨p, 7, none⟩ = some (.int .i64 key) := kp.cell 7
 have HX := hide hx
 have HKP := hide kp
 have HKQ := hide kq
 have HBX := hide hbx
 have HP := hide hp
 have HQ := hide hq
 have HH := hide h
 have HWX := hide hwx
 have HNQ := hide (show ow q = .no from h.fresh q (by omega))
 have HNP := hide (show ow p = .no from h.fresh p (by omega))
 have hm3 := (zAj h.may).2.2.2.1
 dsimp only at hb
 have h0 : wx.cell? ⟨y.hb, 0, none⟩ = some (.int .i64 c.br) := (hx.pc .con).blk.cell 0
 clear hx kp kq hbx hp hq h hwx s2 s3 s4 s5 s6 s7
 have a9 : (kind == 9) = false := by simp; omega
 have a10 : (kind == 10) = false := by simp; omega
 have a11 : (kind == 11) = false := by simp; omega
 have b1 : decide (kind < 1) = false := by simp; omega
 have b2 : decide (kind > 11) = false := by simp; omega
 have hd : (decide (who < 0) = true) ∨ (decide (who < 0) = false ∧ decide (c.br ≤ who) = true) := by
  simp only [decide_eq_true_eq, decide_eq_false_iff_not]
  omega
 go_enter Tryz.func40, Tryz.ntmps40
 go_upto_region 1 with fail
 rw [show (#[.int .i64 0, .int .i64 0, .int .i64 0, .int .i64 0, .int .i64 0, .int .i64 0, .int .i64 0, .int .i64 0, .slice none 0 0, .slice none 0 0, .slice none 0 0] : Array Value) = (tol0 0 0).cells.toArray from rfl, ← zAa HWX, ← zAa HQ, ← zAa HP]
 rcases hd with b3 | ⟨b3, b4⟩
 all_goals
  go_upto_region 13 with fail
  go_quiet (fail)
  have HW := hide (below_drewN (Below.refl wx.heap.size wx) nq)
  have HK2 := hide ((zAa HKQ).drewN nq)
  generalize wx.drewN nq = w2 at HW HK2 ⊢
  clear s0 s1 h0
  go_wp2_with fail
  refine (zAa HNO 2 w2).mono ?_
  rintro _ w6 ⟨rfl, hb6⟩
  have HK6 := hide ((zAa HK2).below hb6 (zAa HK2).lt)
  have HB6 := hide hb6
  clear hb6
  obtain ⟨g0, g1, g2, g3, g4, g5, g6, g7, g8, g9, g10⟩ := zBl (zAa HK6)
  obtain ⟨f0, f1, f2, f3, f4, f5, f6, f7, f8, f9, f10⟩ := zBi (zAa HK6)
  go_wp2_with fail
  change bodyPost _ _ _ _ _ (wrT w6 q (tol0 2 0))
  have k9 := zCc (zAa HK6) rfl (tol0 2 0)
  have HO9 := hide (zBk w6 q (tol0 2 0))
  clear g0 g1 g2 g3 g4 g5 g6 g7 g8 g9 g10 f0 f1 f2 f3 f4 f5 f6 f7 f8 f9 f10
  generalize wrT w6 q (tol0 2 0) = w9 at k9 HO9 ⊢
  obtain ⟨d0, d1, d2, d3, d4, d5, d6, d7, d8, d9, d10⟩ := zAt k9
  refine bodyPost_ret (v := ((tol0 2 0)).val) (by simp [results, Tryz.results40, go_sem, d0, d1, d2, d3, d4, d5, d6, d7, d8, d9, d10, Tol.val]) rfl (zDv (((zAa HX).more (Nat.le_succ K)).calm ((zAa HW).trans ((zAa HB6).mono (zAa HW).size))) ((Kept.calm (zAa HBX)).trans (Kept.calm ((zAa HW).trans ((zAa HB6).mono (zAa HW).size)))) (zGy 2 0 w6 (q + 1)) (Nat.lt_succ_self q) (by rw [zAa HQ]; omega) (zAa HO9) (by rw [zAa HQ]; omega) (zAa HNQ) (zIg _ _ _) (by rw [zAa HE]; rfl) (by rw [zAa HE]) (zAa HH).bw)
set_option maxRecDepth 100000 in
set_option maxHeartbeats 4000000 in
theorem zWo (h : PW w c y S K base ow) (N : Nat) (hS : S.ok c N) (hN : N ≤ 10000) (hK : K < 1000000) (s : StpI) (hT : OrdT w) (hg : 0 < base) (i : Nat) (hi : i < c.n) (hw : s.who = i) (hk : 1 ≤ s.kind ∧ s.kind ≤ 8) :
    Calls Tryz.prog 40 #[.pointer (some ⟨y.hb, 0, none⟩), s.val] w (zBo w c y (K + 1) base ow (stepW c S s)) := by
 have hbrn := (zAj h.may).1.1
 have HE := hide (show stepW c S s = zAz c S s i by unfold stepW; rw [if_neg (by omega), if_neg (by omega), if_neg (by omega), if_neg (by omega), if_neg (by rw [hw, hbrn]; omega), hw, Int.toNat_natCast])
 have HWHO := hide (zXw c S s i)
 obtain ⟨kind, who, item, count, life, id, label, key⟩ := s
 dsimp only at hk
 unfold StpI.val
 dsimp only
 obtain ⟨p, hp⟩ : ∃ p, p = w.heap.size := ⟨_, rfl⟩
 obtain ⟨q, hq⟩ : ∃ q, q = w.heap.size + 1 := ⟨_, rfl⟩
 obtain ⟨wx, hwx⟩ : ∃ wx, wx = (w.alloc (.cells #[.int .i64 kind, .int .i64 who, .int .i64 item, .int .i64 count, .int .i64 life, .int .i64 id, .int .i64 label, .int .i64 key] 48)).alloc (.cells (tol0 0 0).cells.toArray 57) := ⟨_, rfl⟩
 have hbx : Below w.heap.size w wx := by rw [hwx]; exact ((Below.refl _ _).alloc (Nat.le_refl _) _).alloc (by simp) _
 have kp : Blk wx p 48 #[.int .i64 kind, .int .i64 who, .int .i64 item, .int .i64 count, .int .i64 life, .int .i64 id, .int .i64 label, .int .i64 key] := by rw [hwx, hp]; exact (Blk.new w _ _).alloc _
 have kq : Blk wx q 57 (tol0 0 0).cells.toArray := by
  have h1 := Blk.new (w.alloc (.cells #[.int .i64 kind, .int .i64 who, .int .i64 item, .int .i64 count, .int .i64 life, .int .i64 id, .int .i64 label, .int .i64 key] 48)) 57 (tol0 0 0).cells.toArray
  rw [hwx, hq]
  simpa using h1
 have hx := h.calm hbx
 have HNO := hide (fun e W => zCi e W)
 unfold tol0 zAy Tol.val Stk.none at HNO
 dsimp only at HNO
 have s0 : wx.cell? ⟨p, 0, none⟩ = some (.int .i64 kind) := kp.cell 0
 have s1 : wx.cell? ⟨p, 1, none⟩ = some (.int .i64 who) := kp.cell 1
 have s2 : wx.cell? ⟨p, 2, none⟩ = some (.int .i64 item) := kp.cell 2
 have s3 : wx.cell? ⟨p, 3, none⟩ = some (.int .i64 count) := kp.cell 3
 have s4 : wx.cell? ⟨p, 4, none⟩ = some (.int .i64 life) := kp.cell 4
 have s5 : wx.cell? ⟨p, 5, none⟩ = some (.int .i64 id) := kp.cell 5
 have s6 : wx.cell? ⟨p, 6, none⟩ = some (.int .i64 label) := kp.cell 6
 have s7 : wx.cell? ⟨p, 7, none⟩ = some (.int .i64 key) := kp.cell 7
 have HX := hide hx
 have HKP := hide kp
 have HKQ := hide kq
 have HBX := hide hbx
 have HP := hide hp
 have HQ := hide hq
 have HH := hide h
 have HWX := hide hwx
 have HNQ := hide (show ow q = .no from h.fresh q (by omega))
 have HNP := hide (show ow p = .no from h.fresh p (by omega))
 have hm3 := (zAj h.may).2.2.2.1
 dsimp only at hw
 subst hw
 have HCL := hide (fun W (hW : Below wx.heap.size wx W) => yAu (hx.calm hW) N hS (by omega) (OrdT.below hT hg ((hbx.trans (hW.mono hbx.size)).mono h.bw)) hg ⟨kind, i, item, count, life, id, label, key⟩ i hi rfl hk)
 generalize zAz c S ⟨kind, i, item, count, life, id, label, key⟩ i = r at HCL HE HWHO
 unfold StpI.val at HCL
 dsimp only at HCL
 have h0 : wx.cell? ⟨y.hb, 0, none⟩ = some (.int .i64 c.br) := (hx.pc .con).blk.cell 0
 rw [hbrn] at h0
 clear hx kp kq hbx hp hq h hwx hbrn
 have a9 : (kind == 9) = false := by simp; omega
 have a10 : (kind == 10) = false := by simp; omega
 have a11 : (kind == 11) = false := by simp; omega
 have b1 : decide (kind < 1) = false := by simp; omega
 have b2 : decide (kind > 11) = false := by simp; omega
 have b3 : decide ((i : Int) < 0) = false := by simp
 have b4 : decide ((c.n : Int) ≤ (i : Int)) = false := by simp; omega
 have b5 : decide (c.n ≤ i) = false := by simp; omega
 have hin : (i : Int) < (c.n : Int) := by omega
 go_enter Tryz.func40, Tryz.ntmps40
 go_upto_region 1 with fail
 rw [show (#[.int .i64 0, .int .i64 0, .int .i64 0, .int .i64 0, .int .i64 0, .int .i64 0, .int .i64 0, .int .i64 0, .slice none 0 0, .slice none 0 0, .slice none 0 0] : Array Value) = (tol0 0 0).cells.toArray from rfl, ← zAa HWX, ← zAa HQ, ← zAa HP]
 go_upto_region 13 with fail
 go_quiet (fail)
 have HW := hide (below_drewN (Below.refl wx.heap.size wx) nq)
 generalize wx.drewN nq = w2 at HW ⊢
 clear s0 s1 s2 s3 s4 s5 s6 s7 h0
 go_upto_region 15 with fail
 obtain ⟨cs, hcs⟩ : ∃ cs : Array Value, cs = #[.int .i64 kind, .int .i64 (i : Int), .int .i64 item, .int .i64 count, .int .i64 life, .int .i64 id, .int .i64 label, .int .i64 key] := ⟨_, rfl⟩
 go_cut [6] (fun s6 W => ∃ bs, s6 = .pointer (some ⟨bs, 0, none⟩) ∧ Hid (∃ t, StCut w c y K base ow p q bs cs (zFz r.1, r.2) t W))
 case first =>
  have HKS := hide (show Blk w2 p 48 cs by rw [hcs]; exact (zAa HKP).below (zAa HW) (zAa HKP).lt)
  have hR2 : StR c y i p cs w2.drew := zJu ((zAa HX).calm ((zAa HW).drew)) hi (zAa HKS).drew
  have t0 := fun n : HasR (StR c y i p cs) => n.h.1
  have t9 := fun n : HasR (StR c y i p cs) => n.h.2.1
  have t1 : ∀ n : HasR (StR c y i p cs), n.W.cell? ⟨p, 0, none⟩ = some (.int .i64 kind) := fun n => by rw [n.h.2.2.cell 0, hcs]; rfl
  have t2 : ∀ n : HasR (StR c y i p cs), n.W.cell? ⟨p, 1, none⟩ = some (.int .i64 (i : Int)) := fun n => by rw [n.h.2.2.cell 1, hcs]; rfl
  have t3 : ∀ n : HasR (StR c y i p cs), n.W.cell? ⟨p, 2, none⟩ = some (.int .i64 item) := fun n => by rw [n.h.2.2.cell 2, hcs]; rfl
  have t4 : ∀ n : HasR (StR c y i p cs), n.W.cell? ⟨p, 3, none⟩ = some (.int .i64 count) := fun n => by rw [n.h.2.2.cell 3, hcs]; rfl
  have t5 : ∀ n : HasR (StR c y i p cs), n.W.cell? ⟨p, 4, none⟩ = some (.int .i64 life) := fun n => by rw [n.h.2.2.cell 4, hcs]; rfl
  have t6 : ∀ n : HasR (StR c y i p cs), n.W.cell? ⟨p, 5, none⟩ = some (.int .i64 id) := fun n => by rw [n.h.2.2.cell 5, hcs]; rfl
  have t7 : ∀ n : HasR (StR c y i p cs), n.W.cell? ⟨p, 6, none⟩ = some (.int .i64 label) := fun n => by rw [n.h.2.2.cell 6, hcs]; rfl
  have t8 : ∀ n : HasR (StR c y i p cs), n.W.cell? ⟨p, 7, none⟩ = some (.int .i64 key) := fun n => by rw [n.h.2.2.cell 7, hcs]; rfl
  haveI hne : Nonempty (HasR (StR c y i p cs)) := ⟨⟨_, hR2⟩⟩
  clear hcs
  refine zFa (C := fun w' => ∃ n : HasR (StR c y i p cs), w' = n.W) [0, 1, 2, 3, 4, 5, 6, 7, 8, 9] [10, 11, 12] zZb (by kernel_rfl) (by kernel_rfl) (by intro c a d v w h; cases d <;> exact h) ⟨⟨_, hR2⟩, rfl⟩ ?_
  simp only [zAb, List.map_cons, List.map_nil, List.getD_cons_zero, List.getD_cons_succ]
  repeat (go_big_quiet_step (fail))
  refine wpQuiet_nil ?_
  have hd0 : Below wx.heap.size wx w2.drew := (zAa HW).drew
  have hPd := (zAa HKS).drew
  generalize w2.drew = wd at hd0 hPd hR2 ⊢
  have hQd := (zAa HKQ).below hd0 (zAa HKQ).lt
  clear t0 t1 t2 t3 t4 t5 t6 t7 t8 t9 hR2
  unfold zZb
  refine zAm ?_ ?_
  ·refine zAc fun K0 hK0 => ?_
   simp only [zAb, List.map_cons, List.map_nil, List.getD_cons_zero, List.getD_cons_succ]
   go_wp2_with fail
   refine (zAa HCL wd hd0).mono ?_
   rintro _ w7 ⟨t, rfl, hd, hto, ow7, hp7, hk7, hn7⟩
   have HDD := hide hd
   clear hd
   have hkk : Kept w w7 ow ow7 := (Kept.calm ((zAa HBX).trans (hd0.mono (zAa HBX).size))).trans hk7
   have hQ7 := hk7.blk hQd (zAa HNQ)
   have hP7 := hk7.blk hPd (zAa HNP)
   have hq7 : ow7 q = .no := (hk7.old q hQd.lt).trans (zAa HNQ)
   unfold Tol.val
   go_wp2_with fail
   refine hK0 _ w7 (fun _ => ⟨⟨_, zJu hp7 hi hP7⟩, rfl⟩) ?_
   clear hK0 K0
   refine zAc fun K0 hK0 => ?_
   simp only [zAb, List.map_cons, List.map_nil, List.getD_cons_zero, List.getD_cons_succ]
   go_wp2_with fail
   rw [show (#[.int .i64 0, .int .i64 0, .int .i64 0, .int .i64 0, .int .i64 0, .int .i64 0, .int .i64 0, .int .i64 0, .slice none 0 0, .slice none 0 0, .slice none 0 0] : Array Value) = (tol0 0 0).cells.toArray from rfl]
   obtain ⟨w8, hw8⟩ : ∃ w8, w8 = w7.alloc (.cells (tol0 0 0).cells.toArray 57) := ⟨_, rfl⟩
   obtain ⟨bs, hbs⟩ : ∃ bs, bs = w7.heap.size := ⟨_, rfl⟩
   have hb8 : Below w7.heap.size w7 w8 := by rw [hw8]; exact (Below.refl _ _).alloc (Nat.le_refl _) _
   have kb : Blk w8 bs 57 (tol0 0 0).cells.toArray := by rw [hw8, hbs]; exact Blk.new _ _ _
   have hs8 : w8.heap.size = bs + 1 := by rw [hw8, hbs]; simp
   rw [← hw8, ← hbs]
   have hPP := hP7.below hb8 hP7.lt
   have hQQ := hQ7.below hb8 hQ7.lt
   have hbw : w.heap.size ≤ bs := by rw [hbs]; exact hkk.only.size
   have hbq : bs ≠ q := by have := hQ7.lt; omega
   have hbp : bs ≠ p := by have := hP7.lt; omega
   have hto8 := hto.below hb8
   have hnb : ∀ v, (v = Value.slice t.sA t.sn t.sc ∨ v = Value.slice t.fA t.fn t.fc ∨ v = Value.slice t.rA t.rn t.rc) → v.ownBlock ≠ some bs := fun v hv e => by
    rcases hv with rfl | rfl | rfl
    ·have := (hto.so.lt bs e).2; omega
    ·have := (hto.fo.lt bs e).2; omega
    ·have := (hto.ro.lt bs e).2; omega
   have hQs := hQd.lt
   refine hK0 _ w8 (fun _ => ⟨⟨_, zJu (hp7.calm hb8) hi hPP⟩, rfl⟩) ?_
   have hp8 := hp7.calm hb8
   have hk8 := hkk.trans (Kept.calm (ow := ow7) hb8)
   have hb7 : ow7 bs = .no := hp7.fresh bs (by omega)
   have hwd : w.heap.size ≤ wd.heap.size := Nat.le_trans (zAa HBX).size hd0.size
   clear hK0 K0 hw8 hbs
   obtain ⟨g0, g1, g2, g3, g4, g5, g6, g7, g8, g9, g10⟩ := zBl kb
   obtain ⟨f0, f1, f2, f3, f4, f5, f6, f7, f8, f9, f10⟩ := zBi kb
   have hcut := zWe (cs := cs) (p := p) (r := (zFz r.1, r.2)) hp8 hk8 hq7 hb7 hbw hbq hbp hQQ kb rfl hPP hto8 hn7 (zAa HDD) hnb (zAa HH).bw
   refine zAc fun K0 hK0 => ?_
   simp only [zAb, List.map_cons, List.map_nil, List.getD_cons_zero, List.getD_cons_succ]
   go_wp2_with fail
   obtain ⟨owc, hpc, hkc, hqc, hbc, hQc, hBc, hPc, hTc, hNc⟩ := hcut
   refine hK0 _ (wrT w8 bs t) (fun _ => ⟨⟨_, zJu hpc hi hPc⟩, rfl⟩) ?_
   refine zBg ?_
   go_wp2_with fail
   go_meet
   exact ⟨bs, rfl, hide ⟨t, owc, hpc, hkc, hqc, hbc, hbw, hbq, hbp, hQc, hBc, hPc, hNc, zAa HDD, hnb, wd.heap.size, hTc, hQs, hwd⟩⟩
  ·refine zAc fun K0 hK0 => ?_
   simp only [zAb, List.map_cons, List.map_nil, List.getD_cons_zero, List.getD_cons_succ]
   go_wp2_with fail
   rw [show (#[.int .i64 0, .int .i64 0, .int .i64 0, .int .i64 0, .int .i64 0, .int .i64 0, .int .i64 0, .int .i64 0, .slice none 0 0, .slice none 0 0, .slice none 0 0] : Array Value) = (tol0 0 0).cells.toArray from rfl]
   obtain ⟨w6, hw6⟩ : ∃ w6, w6 = wd.alloc (.cells (tol0 0 0).cells.toArray 57) := ⟨_, rfl⟩
   obtain ⟨bs, hbs⟩ : ∃ bs, bs = wd.heap.size := ⟨_, rfl⟩
   have hb6 : Below wd.heap.size wd w6 := by rw [hw6]; exact (Below.refl _ _).alloc (Nat.le_refl _) _
   have kb : Blk w6 bs 57 (tol0 0 0).cells.toArray := by rw [hw6, hbs]; exact Blk.new _ _ _
   rw [← hw6, ← hbs]
   have hd6 := hd0.trans (hb6.mono hd0.size)
   have hbn : ow bs = .no := ((zAa HX).calm hd0).fresh bs (by omega)
   have hbw : w.heap.size ≤ bs := by rw [hbs]; exact Nat.le_trans (zAa HBX).size hd0.size
   have hP6 := hPd.below hb6 hPd.lt
   have hQ6 := hQd.below hb6 hQd.lt
   have hbq : bs ≠ q := by have := hQd.lt; omega
   have hbp : bs ≠ p := by have := hPd.lt; omega
   refine hK0 _ w6 (fun _ => ⟨⟨_, zJu ((zAa HX).calm hd6) hi hP6⟩, rfl⟩) ?_
   clear hK0 K0 hw6 hbs
   refine zAc fun K0 hK0 => ?_
   simp only [zAb, List.map_cons, List.map_nil, List.getD_cons_zero, List.getD_cons_succ]
   go_wp2_with fail
   refine (zAa HCL w6 hd6).mono ?_
   rintro _ w7 ⟨t, rfl, hd, hto, ow7, hp7, hk7, hn7⟩
   have HDD := hide hd
   clear hd
   have hkk : Kept w w7 ow ow7 := (Kept.calm ((zAa HBX).trans (hd6.mono (zAa HBX).size))).trans hk7
   have hQ7 := hk7.blk hQ6 (zAa HNQ)
   have hP7 := hk7.blk hP6 (zAa HNP)
   have hb7 : ow7 bs = .no := (hk7.old bs kb.lt).trans hbn
   have hq7 : ow7 q = .no := (hk7.old q hQ6.lt).trans (zAa HNQ)
   have hbs6 := kb.lt
   have kb := hk7.blk kb hbn
   unfold Tol.val
   go_wp2_with fail
   refine hK0 _ w7 (fun _ => ⟨⟨_, zJu hp7 hi hP7⟩, rfl⟩) ?_
   clear hK0 K0
   have hwd : w.heap.size ≤ w6.heap.size := Nat.le_trans (zAa HBX).size hd6.size
   have hQs := hQ6.lt
   have hnb : ∀ v, (v = Value.slice t.sA t.sn t.sc ∨ v = Value.slice t.fA t.fn t.fc ∨ v = Value.slice t.rA t.rn t.rc) → v.ownBlock ≠ some bs := fun v hv e => by
    rcases hv with rfl | rfl | rfl
    ·have := (hto.so.lt bs e).1; omega
    ·have := (hto.fo.lt bs e).1; omega
    ·have := (hto.ro.lt bs e).1; omega
   obtain ⟨g0, g1, g2, g3, g4, g5, g6, g7, g8, g9, g10⟩ := zBl kb
   obtain ⟨f0, f1, f2, f3, f4, f5, f6, f7, f8, f9, f10⟩ := zBi kb
   have hcut := zWe (cs := cs) (p := p) (r := (zFz r.1, r.2)) hp7 hkk hq7 hb7 hbw hbq hbp hQ7 kb rfl hP7 hto hn7 (zAa HDD) hnb (zAa HH).bw
   refine zAc fun K0 hK0 => ?_
   simp only [zAb, List.map_cons, List.map_nil, List.getD_cons_zero, List.getD_cons_succ]
   go_wp2_with fail
   obtain ⟨owc, hpc, hkc, hqc, hbc, hQc, hBc, hPc, hTc, hNc⟩ := hcut
   refine hK0 _ (wrT w7 bs t) (fun _ => ⟨⟨_, zJu hpc hi hPc⟩, rfl⟩) ?_
   refine zBg ?_
   go_wp2_with fail
   go_meet
   exact ⟨bs, rfl, hide ⟨t, owc, hpc, hkc, hqc, hbc, hbw, hbq, hbp, hQc, hBc, hPc, hNc, zAa HDD, hnb, w6.heap.size, hTc, hQs, hwd⟩⟩
 case rest =>
  obtain ⟨bs, rfl, HC⟩ := hcut
  obtain ⟨t, owc, hpc, hkc, hqc, hbc, hbw, hbq, hbp, hQc, hBc, hPc, hNc, hdc, hnb, B, hTc, hqB, hwB⟩ := zAa HC
  have p1 : wc.cell? ⟨p, 1, none⟩ = some (.int .i64 (i : Int)) := by rw [hPc.cell 1, hcs]; rfl
  have v1 : wc.cell? ⟨bs, 1, none⟩ = some (.int .i64 t.d.who) := hBc.cell 1
  have y1 := hBc.frozen 1
  have ho9 : Only (fun k => k = bs) wc (wc.setCell ⟨bs, 1, none⟩ (.int .i64 (i : Int))) := zAg (Only.refl _ wc) 1 _
  have HKT := hide (show Blk (wc.setCell ⟨bs, 1, none⟩ (.int .i64 (i : Int))) bs 57 (whoT t i).cells.toArray by rw [← yDq]; exact hBc.set_ 1 _)
  have HP9 := hide (hpc.own ho9 hbc (Nat.le_trans (zAa HH).bw hbw))
  have HKK := hide (show Kept w (wc.setCell ⟨bs, 1, none⟩ (.int .i64 (i : Int))) ow owc from ⟨hkc.only.trans ho9 (fun x hx e => by omega), hkc.old⟩)
  have HQ9 := hide (hQc.only ho9 (fun e => hbq e.symm))
  have HT9 := hide (show TolOwn (whoT t i) (wc.setCell ⟨bs, 1, none⟩ (.int .i64 (i : Int))) B from by
   have h1 := zOn hTc hNc ho9 hnb
   exact ⟨h1.so, h1.fo, h1.ro⟩)
  have HN9 := hide (show TolNo (whoT t i) owc from hNc)
  have HD9 := hide (show (whoT t i).d = r.1 by
   unfold whoT
   dsimp only
   rw [hdc]
   unfold zFz
   dsimp only
   rw [← zAa HWHO])
  have HNC := hide hqc
  have HQB := hide hqB
  have HWB := hide hwB
  clear hpc hkc hqc hbc hbw hbq hbp hQc hBc hPc hNc hdc hnb hTc hqB hwB HC ho9 hcs
  go_upto_region 17 with fail
  generalize wc.setCell ⟨bs, 1, none⟩ (.int .i64 (i : Int)) = w9 at HKT HP9 HKK HQ9 HT9 ⊢
  clear p1 v1 y1
  generalize whoT t i = t9 at HKT HT9 HN9 HD9
  obtain ⟨x0, x1, x2, x3, x4, x5, x6, x7, x8, x9, x10⟩ := zAt (zAa HKT)
  obtain ⟨g0, g1, g2, g3, g4, g5, g6, g7, g8, g9, g10⟩ := zBl (zAa HQ9)
  obtain ⟨f0, f1, f2, f3, f4, f5, f6, f7, f8, f9, f10⟩ := zBi (zAa HQ9)
  go_wp2_with fail
  change bodyPost _ _ _ _ _ (wrT w9 q t9)
  have k9 := zCc (zAa HQ9) rfl t9
  have HO9 := hide (zBk w9 q t9)
  clear g0 g1 g2 g3 g4 g5 g6 g7 g8 g9 g10 f0 f1 f2 f3 f4 f5 f6 f7 f8 f9 f10
  generalize wrT w9 q t9 = wz at k9 HO9 ⊢
  obtain ⟨d0, d1, d2, d3, d4, d5, d6, d7, d8, d9, d10⟩ := zAt k9
  refine bodyPost_ret (v := (t9).val) (by simp [results, Tryz.results40, go_sem, d0, d1, d2, d3, d4, d5, d6, d7, d8, d9, d10, Tol.val]) rfl (zDv ((zAa HP9).more (Nat.le_succ K)) (zAa HKK) (zAa HT9) (zAa HQB) (zAa HWB) (zAa HO9) (by rw [zAa HQ]; omega) (zAa HNC) (zAa HN9) ((zAa HD9).trans (by rw [zAa HE])) (by rw [zAa HE]) (zAa HH).bw)
theorem step_any (h : PW w c y S K base ow) (N : Nat) (hS : S.ok c N) (hN : N ≤ 10000) (hK : K < 1000000) (hT : OrdT w) (hg : 0 < base) (s : StpI) (hwf : (Lit.int .i64 s.id).wf = true) :
    Calls Tryz.prog 40 #[.pointer (some ⟨y.hb, 0, none⟩), s.val] w (zBo w c y (K + 1) base ow (stepW c S s)) := by
 by_cases h1 : s.kind = 9
 ·exact yCh h N hS hN hK s h1
 by_cases h2 : s.kind = 10
 ·exact zUt h N hS hN hK s hwf h2
 by_cases h3 : s.kind = 11
 ·exact yDj h N hS hN hK s hwf h3
 by_cases h4 : s.kind < 1 ∨ 11 < s.kind
 ·exact yBv h N hS hN hK s h4
 have h5 : 1 ≤ s.kind ∧ s.kind ≤ 8 := by omega
 by_cases h6 : s.who < 0 ∨ c.br ≤ s.who
 ·exact step_who h N hS hN hK s h5 h6
 have hbr := (zAj h.may).1.1
 exact zWo h N hS hN hK s hT hg s.who.toNat (by omega) (by omega) h5
end
end
end Go.Proofs.YtbolcebmbpepdaaGreatDoor
