/- Contracts and plain facts, set together by program out of smaller texts. Conditions: none beyond what each theorem states. -/
import Derived.Test.YtbolcebmbpepdaaGreatDoorM34
namespace Go.Proofs.YtbolcebmbpepdaaGreatDoor
set_option linter.unusedVariables false
section
open Go.RowKit
def OrdT (w : World) : Prop := ∀ k : Nat, k < 5 → w.cell? ⟨0, k, none⟩ = some (.int .i64 ((k : Int) + 2))
section
variable {w : World} {c : Cfg} {y : Lay} {S : WS} {K base : Nat} {ow : Nat → Tag}
theorem TolOwn.put {t : Tol} {w w' : World} {B b : Nat} (h : TolOwn t w B) (ho : Only (fun k => k = b) w w') (hb : b < B) : TolOwn t w' B :=
 ⟨zAk h.so ho (fun g hg e => by have := (h.so.lt g hg).1; omega), zAk h.fo ho (fun g hg e => by have := (h.fo.lt g hg).1; omega), zAk h.ro ho (fun g hg e => by have := (h.ro.lt g hg).1; omega)⟩
theorem zDv {w2 w9 : World} {ow2 : Nat → Tag} {S' : WS} {t : Tol} {B q : Nat} {r : TolD × WS} (hp : PW w2 c y S' K base ow2) (hk : Kept w w2 ow ow2) (hto : TolOwn t w2 B) (hB : q < B) (hwB : w.heap.size ≤ B) (ho : Only (fun k => k = q) w2 w9) (hq : w.heap.size ≤ q) (hn : ow2 q = .no) (htn : TolNo t ow2) (hd : t.d = r.1) (hr : r.2 = S') (hw : base ≤ w.heap.size) : zBo w c y K base ow r (.returned t.val) w9 := by
 subst hr
 exact ⟨t, rfl, hd, (hto.put ho hB).mono hwB, ow2, hp.own ho hn (Nat.le_trans hw hq), ⟨hk.only.trans ho (fun x hx e => by omega), hk.old⟩, htn⟩
set_option maxRecDepth 100000 in
set_option maxHeartbeats 4000000 in
theorem zUy (h : PW w c y S K base ow) (N : Nat) (hS : S.ok c N) (hN : N ≤ 900000) (s : StpI) (i : Nat) (hi : i < c.n) (hw : s.who = i) (hk : s.kind = 7 ∨ s.kind = 8) :
    Calls Tryz.prog 67 #[.pointer (some ⟨y.hb, 0, none⟩), .pointer (some ⟨(y.br i).b, 0, none⟩), s.val] w (zBo w c y K base ow (zFz (zAz c S s i).1, (zAz c S s i).2)) := by
 have HE := hide (show zAz c S s i = zBu c S s i from if_pos hk)
 have HEN := hide (fun W (hW : Below w.heap.size w W) => yDu (h.calm hW) N hS s i hi hw)
 unfold StpI.val at HEN
 obtain ⟨kind, who, item, count, life, id, label, key⟩ := s
 dsimp only at hk hw
 unfold StpI.val
 dsimp only
 obtain ⟨p, hp⟩ : ∃ p, p = w.heap.size := ⟨_, rfl⟩
 obtain ⟨q, hq⟩ : ∃ q, q = w.heap.size + 1 := ⟨_, rfl⟩
 obtain ⟨wx, hwx⟩ : ∃ wx, wx = (w.alloc (.cells #[.int .i64 kind, .int .i64 who, .int .i64 item, .int .i64 count, .int .i64 life, .int .i64 id, .int .i64 label, .int .i64 key] 48)).alloc (.cells (tol0 0 0).cells.toArray 57) := ⟨_, rfl⟩
 have hbx : Below w.heap.size w wx := by rw [hwx]; exact ((Below.refl _ _).alloc (Nat.le_refl _) _).alloc (by simp) _
 have kp : Blk wx p 48 #[.int .i64 kind, .int .i64 who, .int .i64 item, .int .i64 count, .int .i64 life, .int .i64 id, .int .i64 label, .int .i64 key] := by rw [hwx, hp]; exact (Blk.new w _ _).alloc _
 have kq : Blk wx q 57 (tol0 0 0).cells.toArray := by
  have h1 := Blk.new (w.alloc (.cells #[.int .i64 kind, .int .i64 who, .int .i64 item, .int .i64 count, .int .i64 life, .int .i64 id, .int .i64 label, .int .i64 key] 48)) 57 (tol0 0 0).cells.toArray
  rw [hwx, hq]
  simpa using h1
 have hx := h.calm hbx
 have HNO := hide (fun e W => zCi e W)
 unfold tol0 zAy Tol.val Stk.none at HNO
 dsimp only at HNO
 have s0 : wx.cell? ⟨p, 0, none⟩ = some (.int .i64 kind) := kp.cell 0
 have s1 : wx.cell? ⟨p, 1, none⟩ = some (.int .i64 who) := kp.cell 1
 have s2 : wx.cell? ⟨p, 2, none⟩ = some (.int .i64 item) := kp.cell 2
 have s3 : wx.cell? ⟨p, 3, none⟩ = some (.int .i64 count) := kp.cell 3
 have s4 : wx.cell? ⟨p, 4, none⟩ = some (.int .i64 life) := kp.cell 4
 have s5 : wx.cell? ⟨p, 5, none⟩ = some (.int .i64 id) := kp.cell 5
 have s6 : wx.cell? ⟨p, 6, none⟩ = some (.int .i64 label) := kp.cell 6
 have s7 : wx.cell? ⟨p, 7, none⟩ = some (.int .i64 key) := kp.cell 7
 have HX := hide hx
 have HKP := hide kp
 have HKQ := hide kq
 have HBX := hide hbx
 have HP := hide hp
 have HQ := hide hq
 have HH := hide h
 have HWX := hide hwx
 have HNQ := hide (show ow q = .no from h.fresh q (by omega))
 have HNP := hide (show ow p = .no from h.fresh p (by omega))
 have hm3 := (zAj h.may).2.2.2.1
 dsimp only at HEN
 clear hx kp kq hbx hp hq h hwx s1 s2 s3 s4 s5 s6 s7 hw
 have hd : (kind == 7) = true ∨ ((kind == 7) = false ∧ (kind == 8) = true) := by
  simp only [beq_iff_eq, beq_eq_false_iff_ne]
  omega
 go_enter Tryz.func67, Tryz.ntmps67
 go_upto_region 1 with fail
 rw [show (#[.int .i64 0, .int .i64 0, .int .i64 0, .int .i64 0, .int .i64 0, .int .i64 0, .int .i64 0, .int .i64 0, .slice none 0 0, .slice none 0 0, .slice none 0 0] : Array Value) = (tol0 0 0).cells.toArray from rfl, ← zAa HWX, ← zAa HQ, ← zAa HP]
 have s1 := (zAa HKP).cell 1
 have s2 := (zAa HKP).cell 2
 have s3 := (zAa HKP).cell 3
 have s4 := (zAa HKP).cell 4
 have s5 := (zAa HKP).cell 5
 have s6 := (zAa HKP).cell 6
 have s7 := (zAa HKP).cell 7
 rcases hd with a1 | ⟨a1, a2⟩
 all_goals
  go_wp2_with fail
  refine (zAa HEN wx (zAa HBX)).mono ?_
  rintro _ w2 ⟨t, rfl, hd, hto, ow2, hp2, hk2, hn2⟩
  have HK2 := hide (hk2.blk (zAa HKQ) (zAa HNQ))
  have HP2 := hide hp2
  have HKK := hide ((Kept.calm (zAa HBX)).trans hk2)
  have HN2 := hide (show ow2 q = .no from (hk2.old q (zAa HKQ).lt).trans (zAa HNQ))
  have HTO := hide hto
  have HTN := hide hn2
  have HTD := hide hd
  unfold Tol.val
  clear hp2 hk2 hto hn2 hd s0 s1 s2 s3 s4 s5 s6 s7
  obtain ⟨g0, g1, g2, g3, g4, g5, g6, g7, g8, g9, g10⟩ := zBl (zAa HK2)
  obtain ⟨f0, f1, f2, f3, f4, f5, f6, f7, f8, f9, f10⟩ := zBi (zAa HK2)
  go_wp2_with fail
  change bodyPost _ _ _ _ _ (wrT w2 q t)
  have k9 := zCc (zAa HK2) rfl t
  have HO9 := hide (zBk w2 q t)
  clear g0 g1 g2 g3 g4 g5 g6 g7 g8 g9 g10 f0 f1 f2 f3 f4 f5 f6 f7 f8 f9 f10
  generalize wrT w2 q t = w9 at k9 HO9 ⊢
  obtain ⟨d0, d1, d2, d3, d4, d5, d6, d7, d8, d9, d10⟩ := zAt k9
  refine bodyPost_ret (v := (t).val) (by simp [results, Tryz.results67, go_sem, d0, d1, d2, d3, d4, d5, d6, d7, d8, d9, d10, Tol.val]) rfl (zDv (zAa HP2) (zAa HKK) (zAa HTO) (zAa HKQ).lt (zAa HBX).size (zAa HO9) (by rw [zAa HQ]; omega) (zAa HN2) (zAa HTN) ((zAa HTD).trans (by rw [zAa HE])) (by rw [zAa HE]) (zAa HH).bw)
set_option maxRecDepth 100000 in
set_option maxHeartbeats 4000000 in
theorem zVt (h : PW w c y S K base ow) (N : Nat) (hS : S.ok c N) (hN : N ≤ 900000) (s : StpI) (i : Nat) (hi : i < c.n) (hw : s.who = i) (hk : ¬ (s.kind = 7 ∨ s.kind = 8)) (hb : s.item < 0 ∨ (c.m : Int) ≤ s.item) :
    Calls Tryz.prog 67 #[.pointer (some ⟨y.hb, 0, none⟩), .pointer (some ⟨(y.br i).b, 0, none⟩), s.val] w (zBo w c y K base ow (zFz (zAz c S s i).1, (zAz c S s i).2)) := by
 have HE := hide (show zAz c S s i = (zAy 2 i, S) from (if_neg hk).trans (if_pos hb))
 obtain ⟨kind, who, item, count, life, id, label, key⟩ := s
 dsimp only at hk hw
 unfold StpI.val
 dsimp only
 obtain ⟨p, hp⟩ : ∃ p, p = w.heap.size := ⟨_, rfl⟩
 obtain ⟨q, hq⟩ : ∃ q, q = w.heap.size + 1 := ⟨_, rfl⟩
 obtain ⟨wx, hwx⟩ : ∃ wx, wx = (w.alloc (.cells #[.int .i64 kind, .int .i64 who, .int .i64 item, .int .i64 count, .int .i64 life, .int .i64 id, .int .i64 label, .int .i64 key] 48)).alloc (.cells (tol0 0 0).cells.toArray 57) := ⟨_, rfl⟩
 have hbx : Below w.heap.size w wx := by rw [hwx]; exact ((Below.refl _ _).alloc (Nat.le_refl _) _).alloc (by simp) _
 have kp : Blk wx p 48 #[.int .i64 kind, .int .i64 who, .int .i64 item, .int .i64 count, .int .i64 life, .int .i64 id, .int .i64 label, .int .i64 key] := by rw [hwx, hp]; exact (Blk.new w _ _).alloc _
 have kq : Blk wx q 57 (tol0 0 0).cells.toArray := by
  have h1 := Blk.new (w.alloc (.cells #[.int .i64 kind, .int .i64 who, .int .i64 item, .int .i64 count, .int .i64 life, .int .i64 id, .int .i64 label, .int .i64 key] 48)) 57 (tol0 0 0).cells.toArray
  rw [hwx, hq]
  simpa using h1
 have hx := h.calm hbx
 have HNO := hide (fun e W => zCi e W)
 unfold tol0 zAy Tol.val Stk.none at HNO
 dsimp only at HNO
 have s0 : wx.cell? ⟨p, 0, none⟩ = some (.int .i64 kind) := kp.cell 0
 have s1 : wx.cell? ⟨p, 1, none⟩ = some (.int .i64 who) := kp.cell 1
 have s2 : wx.cell? ⟨p, 2, none⟩ = some (.int .i64 item) := kp.cell 2
 have s3 : wx.cell? ⟨p, 3, none⟩ = some (.int .i64 count) := kp.cell 3
 have s4 : wx.cell? ⟨p, 4, none⟩ = some (.int .i64 life) := kp.cell 4
 have s5 : wx.cell? ⟨p, 5, none⟩ = some (.int .i64 id) := kp.cell 5
 have s6 : wx.cell? ⟨p, 6, none⟩ = some (.int .i64 label) := kp.cell 6
 have s7 : wx.cell? ⟨p, 7, none⟩ = some (.int .i64 key) := kp.cell 7
 have HX := hide hx
 have HKP := hide kp
 have HKQ := hide kq
 have HBX := hide hbx
 have HP := hide hp
 have HQ := hide hq
 have HH := hide h
 have HWX := hide hwx
 have HNQ := hide (show ow q = .no from h.fresh q (by omega))
 have HNP := hide (show ow p = .no from h.fresh p (by omega))
 have hm3 := (zAj h.may).2.2.2.1
 dsimp only at hb
 have d1 : wx.cell? ⟨(y.br i).b, 1, none⟩ = some (.slice (some ⟨(y.br i).a, 0, none⟩) c.m c.m) := ((hx.pc .con).brs i hi).cell 1
 clear hx kp kq hbx hp hq h hwx s1 s3 s4 s5 s6 s7 hw
 have a1 : (kind == 7) = false := by simp only [beq_eq_false_iff_ne]; omega
 have a2 : (kind == 8) = false := by simp only [beq_eq_false_iff_ne]; omega
 have hd : decide (item < 0) = true ∨ (decide (item < 0) = false ∧ decide ((c.m : Int) ≤ item) = true) := by
  simp only [decide_eq_true_eq, decide_eq_false_iff_not]
  omega
 clear hb hk
 go_enter Tryz.func67, Tryz.ntmps67
 go_upto_region 1 with fail
 rw [show (#[.int .i64 0, .int .i64 0, .int .i64 0, .int .i64 0, .int .i64 0, .int .i64 0, .int .i64 0, .int .i64 0, .slice none 0 0, .slice none 0 0, .slice none 0 0] : Array Value) = (tol0 0 0).cells.toArray from rfl, ← zAa HWX, ← zAa HQ, ← zAa HP]
 go_upto_region 3 with fail
 rcases hd with b1 | ⟨b1, b2⟩
 all_goals
  go_quiet (fail)
  have HW := hide (below_drewN (Below.refl wx.heap.size wx) nq)
  have HK2 := hide ((zAa HKQ).drewN nq)
  generalize wx.drewN nq = w2 at HW HK2 ⊢
  clear d1 s0 s2
  go_wp2_with fail
  refine (zAa HNO 2 w2).mono ?_
  rintro _ w6 ⟨rfl, hb6⟩
  have HK6 := hide ((zAa HK2).below hb6 (zAa HK2).lt)
  have HB6 := hide ((zAa HW).trans (hb6.mono (zAa HW).size))
  clear hb6
  obtain ⟨g0, g1, g2, g3, g4, g5, g6, g7, g8, g9, g10⟩ := zBl (zAa HK6)
  obtain ⟨f0, f1, f2, f3, f4, f5, f6, f7, f8, f9, f10⟩ := zBi (zAa HK6)
  go_wp2_with fail
  change bodyPost _ _ _ _ _ (wrT w6 q (tol0 2 0))
  have k9 := zCc (zAa HK6) rfl (tol0 2 0)
  have HO9 := hide (zBk w6 q (tol0 2 0))
  clear g0 g1 g2 g3 g4 g5 g6 g7 g8 g9 g10 f0 f1 f2 f3 f4 f5 f6 f7 f8 f9 f10
  generalize wrT w6 q (tol0 2 0) = w9 at k9 HO9 ⊢
  obtain ⟨d0, d1, d2, d3, d4, d5, d6, d7, d8, d9, d10⟩ := zAt k9
  refine bodyPost_ret (v := ((tol0 2 0)).val) (by simp [results, Tryz.results67, go_sem, d0, d1, d2, d3, d4, d5, d6, d7, d8, d9, d10, Tol.val]) rfl (zDf 2 (zAa HE) (Turned.nobody (zAa HH) ((zAa HBX).trans ((zAa HB6).mono (zAa HBX).size)) (zAa HO9) (by rw [zAa HQ]; omega)))
set_option maxRecDepth 100000 in
set_option maxHeartbeats 4000000 in
theorem yAa (h : PW w c y S K base ow) (N : Nat) (hS : S.ok c N) (hN : N ≤ 900000) (s : StpI) (i : Nat) (hi : i < c.n) (hw : s.who = i) (hk : s.kind = 1) (hb : 0 ≤ s.item ∧ s.item < c.m) :
    Calls Tryz.prog 67 #[.pointer (some ⟨y.hb, 0, none⟩), .pointer (some ⟨(y.br i).b, 0, none⟩), s.val] w (zBo w c y K base ow (zFz (zAz c S s i).1, (zAz c S s i).2)) := by
 obtain ⟨kind, who, item, count, life, id, label, key⟩ := s
 dsimp only at hk hw
 unfold StpI.val
 dsimp only
 obtain ⟨p, hp⟩ : ∃ p, p = w.heap.size := ⟨_, rfl⟩
 obtain ⟨q, hq⟩ : ∃ q, q = w.heap.size + 1 := ⟨_, rfl⟩
 obtain ⟨wx, hwx⟩ : ∃ wx, wx = (w.alloc (.cells #[.int .i64 kind, .int .i64 who, .int .i64 item, .int .i64 count, .int .i64 life, .int .i64 id, .int .i64 label, .int .i64 key] 48)).alloc (.cells (tol0 0 0).cells.toArray 57) := ⟨_, rfl⟩
 have hbx : Below w.heap.size w wx := by rw [hwx]; exact ((Below.refl _ _).alloc (Nat.le_refl _) _).alloc (by simp) _
 have kp : Blk wx p 48 #[.int .i64 kind, .int .i64 who, .int .i64 item, .int .i64 count, .int .i64 life, .int .i64 id, .int .i64 label, .int .i64 key] := by rw [hwx, hp]; exact (Blk.new w _ _).alloc _
 have kq : Blk wx q 57 (tol0 0 0).cells.toArray := by
  have h1 := Blk.new (w.alloc (.cells #[.int .i64 kind, .int .i64 who, .int .i64 item, .int .i64 count, .int .i64 life, .int .i64 id, .int .i64 label, .int .i64 key] 48)) 57 (tol0 0 0).cells.toArray
  rw [hwx, hq]
  simpa using h1
 have hx := h.calm hbx
 have HNO := hide (fun e W => zCi e W)
 unfold tol0 zAy Tol.val Stk.none at HNO
 dsimp only at HNO
 have s0 : wx.cell? ⟨p, 0, none⟩ = some (.int .i64 kind) := kp.cell 0
 have s1 : wx.cell? ⟨p, 1, none⟩ = some (.int .i64 who) := kp.cell 1
 have s2 : wx.cell? ⟨p, 2, none⟩ = some (.int .i64 item) := kp.cell 2
 have s3 : wx.cell? ⟨p, 3, none⟩ = some (.int .i64 count) := kp.cell 3
 have s4 : wx.cell? ⟨p, 4, none⟩ = some (.int .i64 life) := kp.cell 4
 have s5 : wx.cell? ⟨p, 5, none⟩ = some (.int .i64 id) := kp.cell 5
 have s6 : wx.cell? ⟨p, 6, none⟩ = some (.int .i64 label) := kp.cell 6
 have s7 : wx.cell? ⟨p, 7, none⟩ = some (.int .i64 key) := kp.cell 7
 have HX := hide hx
 have HKP := hide kp
 have HKQ := hide kq
 have HBX := hide hbx
 have HP := hide hp
 have HQ := hide hq
 have HH := hide h
 have HWX := hide hwx
 have HNQ := hide (show ow q = .no from h.fresh q (by omega))
 have HNP := hide (show ow p = .no from h.fresh p (by omega))
 have hm3 := (zAj h.may).2.2.2.1
 dsimp only at hb
 obtain ⟨k, hkk⟩ : ∃ k : Nat, item = k := ⟨item.toNat, by omega⟩
 subst hkk
 subst hk
 have hkm : k < c.m := by omega
 obtain ⟨z, hz⟩ : ∃ z, (S.ask i)[k]? = some z := ⟨_, List.getElem?_eq_getElem (by rw [(hS.ask i).1]; exact hkm)⟩
 have hzb := (hS.ask i).2 z (List.mem_of_getElem? hz)
 have hgz : (S.ask i).getD k 0 = z := by rw [List.getD_eq_getElem?_getD, hz]; rfl
 have HE := hide (show zAz c S ⟨1, who, k, count, life, id, label, key⟩ i = (if count < 1 ∨ 1048576 < count then (zAy 2 i, S) else if 1048576 < z + count then (zAy 12 i, S) else (zAy 0 i, { S with ask := upd1 S.ask i ((S.ask i).set k (z + count)) })) by
  unfold zAz
  dsimp only
  rw [if_neg (by omega), if_neg (by omega), if_pos rfl, Int.toNat_natCast, hgz])
 have d1 : wx.cell? ⟨(y.br i).b, 1, none⟩ = some (.slice (some ⟨(y.br i).a, 0, none⟩) c.m c.m) := ((hx.pc .con).brs i hi).cell 1
 have e1 : wx.cell? ⟨(y.br i).a, k, none⟩ = some (.int .i64 z) := IRow.cell (hx.pc (.ask i) hi).row hz
 have HZ := hide hz
 have HKL := hide (show k < (S.ask i).length by rw [(hS.ask i).1]; exact hkm)
 have D1 := hide d1
 have E1 := hide e1
 have T2 := hide s2
 have T3 := hide s3
 clear hx kp kq hbx hp hq h hwx s1 s4 s5 s6 s7 hw hgz hz
 have b1 : decide ((k : Int) < 0) = false := by simp
 have b2 : decide ((c.m : Int) ≤ (k : Int)) = false := by simp; omega
 have b3 : decide (c.m ≤ k) = false := by simp; omega
 have hkm2 : (k : Int) < (c.m : Int) := by omega
 go_enter Tryz.func67, Tryz.ntmps67
 go_upto_region 1 with fail
 rw [show (#[.int .i64 0, .int .i64 0, .int .i64 0, .int .i64 0, .int .i64 0, .int .i64 0, .int .i64 0, .int .i64 0, .slice none 0 0, .slice none 0 0, .slice none 0 0] : Array Value) = (tol0 0 0).cells.toArray from rfl, ← zAa HWX, ← zAa HQ, ← zAa HP]
 go_upto_region 3 with fail
 go_quiet (fail)
 have HW := hide (below_drewN (Below.refl wx.heap.size wx) nq)
 have HK2 := hide ((zAa HKQ).drewN nq)
 generalize wx.drewN nq = w2 at HW HK2 ⊢
 clear d1 s0 s2 s3 e1
 have r0 := Ext.cell (w := wx) ⟨w2, zAa HW⟩ ((zAa HKP).cell 0)
 have r2 := Ext.cell (w := wx) ⟨w2, zAa HW⟩ (zAa T2)
 have r3 := Ext.cell (w := wx) ⟨w2, zAa HW⟩ (zAa T3)
 have d1 := Ext.cell (w := wx) ⟨w2, zAa HW⟩ (zAa D1)
 have e1 := Ext.cell (w := wx) ⟨w2, zAa HW⟩ (zAa E1)
 by_cases hc : count < 1 ∨ 1048576 < count
 ·have HG := hide ((zAa HE).trans (if_pos hc))
  have hd : decide (count < 1) = true ∨ (decide (count < 1) = false ∧ decide (1048576 < count) = true) := by
   simp only [decide_eq_true_eq, decide_eq_false_iff_not]
   omega
  clear hc
  rcases hd with a1 | ⟨a1, a2⟩
  all_goals
   go_wp2_with fail
   refine (zAa HNO 2 w2).mono ?_
   rintro _ w6 ⟨rfl, hb6⟩
   have HK6 := hide ((zAa HK2).below hb6 (zAa HK2).lt)
   have HB6 := hide ((zAa HW).trans (hb6.mono (zAa HW).size))
   clear hb6
   obtain ⟨g0, g1, g2, g3, g4, g5, g6, g7, g8, g9, g10⟩ := zBl (zAa HK6)
   obtain ⟨f0, f1, f2, f3, f4, f5, f6, f7, f8, f9, f10⟩ := zBi (zAa HK6)
   go_wp2_with fail
   change bodyPost _ _ _ _ _ (wrT w6 q (tol0 2 0))
   have k9 := zCc (zAa HK6) rfl (tol0 2 0)
   have HO9 := hide (zBk w6 q (tol0 2 0))
   clear g0 g1 g2 g3 g4 g5 g6 g7 g8 g9 g10 f0 f1 f2 f3 f4 f5 f6 f7 f8 f9 f10
   generalize wrT w6 q (tol0 2 0) = w9 at k9 HO9 ⊢
   obtain ⟨d0, d1, d2, d3, d4, d5, d6, d7, d8, d9, d10⟩ := zAt k9
   refine bodyPost_ret (v := ((tol0 2 0)).val) (by simp [results, Tryz.results67, go_sem, d0, d1, d2, d3, d4, d5, d6, d7, d8, d9, d10, Tol.val]) rfl (zDf 2 (zAa HG) (Turned.nobody (zAa HH) ((zAa HBX).trans ((zAa HB6).mono (zAa HBX).size)) (zAa HO9) (by rw [zAa HQ]; omega)))
 ·have a1 : decide (count < 1) = false := by simp; omega
  have a2 : decide (1048576 < count) = false := by simp; omega
  have hcb : 1 ≤ count ∧ count ≤ 1048576 := by omega
  have HG := hide ((zAa HE).trans (if_neg hc))
  clear hc HE
  go_upto_region 8 with fail
  go_quiet (fail)
  have HW3 := hide (below_drewN (zAa HW) nq)
  have HK3 := hide ((zAa HK2).drewN nq)
  generalize w2.drewN nq = w3 at HW3 HK3 ⊢
  clear r0 r2 r3 d1 e1
  by_cases ho : 1048576 < z + count
  ·have a3 : decide (1048576 < z + count) = true := by simpa using ho
   rw [a3]
   have HF := hide ((zAa HG).trans (if_pos ho))
   clear ho
   go_wp2_with fail
   refine (zAa HNO 12 w3).mono ?_
   rintro _ w6 ⟨rfl, hb6⟩
   have HK6 := hide ((zAa HK3).below hb6 (zAa HK3).lt)
   have HB6 := hide ((zAa HW3).trans (hb6.mono (zAa HW3).size))
   clear hb6
   obtain ⟨g0, g1, g2, g3, g4, g5, g6, g7, g8, g9, g10⟩ := zBl (zAa HK6)
   obtain ⟨f0, f1, f2, f3, f4, f5, f6, f7, f8, f9, f10⟩ := zBi (zAa HK6)
   go_wp2_with fail
   change bodyPost _ _ _ _ _ (wrT w6 q (tol0 12 0))
   have k9 := zCc (zAa HK6) rfl (tol0 12 0)
   have HO9 := hide (zBk w6 q (tol0 12 0))
   clear g0 g1 g2 g3 g4 g5 g6 g7 g8 g9 g10 f0 f1 f2 f3 f4 f5 f6 f7 f8 f9 f10
   generalize wrT w6 q (tol0 12 0) = w9 at k9 HO9 ⊢
   obtain ⟨d0, d1, d2, d3, d4, d5, d6, d7, d8, d9, d10⟩ := zAt k9
   refine bodyPost_ret (v := ((tol0 12 0)).val) (by simp [results, Tryz.results67, go_sem, d0, d1, d2, d3, d4, d5, d6, d7, d8, d9, d10, Tol.val]) rfl (zDf 12 (zAa HF) (Turned.nobody (zAa HH) ((zAa HBX).trans ((zAa HB6).mono (zAa HBX).size)) (zAa HO9) (by rw [zAa HQ]; omega)))
  ·have a3 : decide (1048576 < z + count) = false := by simpa using ho
   rw [a3]
   have HF := hide ((zAa HG).trans (if_neg ho))
   clear ho
   go_upto_region 10 with fail
   have r2 := fun n : Nat => show (w3.drewN n).cell? ⟨p, 2, none⟩ = some (.int .i64 (k : Int)) from Ext.cell (w := wx) ⟨w3, zAa HW3⟩ (zAa T2)
   have r3 := fun n : Nat => show (w3.drewN n).cell? ⟨p, 3, none⟩ = some (.int .i64 count) from Ext.cell (w := wx) ⟨w3, zAa HW3⟩ (zAa T3)
   have d1 := fun n : Nat => show (w3.drewN n).cell? ⟨(y.br i).b, 1, none⟩ = some (.slice (some ⟨(y.br i).a, 0, none⟩) c.m c.m) from Ext.cell (w := wx) ⟨w3, zAa HW3⟩ (zAa D1)
   have e1 := fun n : Nat => show (w3.drewN n).cell? ⟨(y.br i).a, k, none⟩ = some (.int .i64 z) from Ext.cell (w := wx) ⟨w3, zAa HW3⟩ (zAa E1)
   refine zCo 12 (by kernel_rfl) (by kernel_rfl) ?_
   simp only [List.take_succ_cons, List.take_zero, List.drop_succ_cons, List.drop_zero]
   repeat (go_big_quiet_step (fail))
   refine wpQuiet_nil ?_
   rintro _ ⟨nq, rfl⟩
   have HP4 := hide (((zAa HX).calm (zAa HW3)).calm (below_drewN (Below.refl _ w3) nq))
   have HK4 := hide ((zAa HK3).drewN nq)
   have HB4 := hide (show Below w.heap.size w (w3.drewN nq) from below_drewN ((zAa HBX).trans ((zAa HW3).mono (zAa HBX).size)) nq)
   have e2 := e1 nq
   clear r2 r3 d1 e1
   generalize w3.drewN nq = w4 at HP4 HK4 HB4 e2 ⊢
   have e3 : w4.frozen? ⟨(y.br i).a, k, none⟩ = false := IRow.frozen ((zAa HP4).pc (.ask i) hi).row k
   go_upto_region 11 with fail
   obtain ⟨ow5, hp5, hk5⟩ := PW.setAsk (zAa HP4) hi (zAa HKL) (z + count)
   have HP5 := hide hp5
   have HK5 := hide (hk5.blk (zAa HK4) (zAa HNQ))
   have HKK := hide ((Kept.calm (ow := ow) (zAa HB4)).trans hk5)
   have HN5 := hide (show ow5 q = .no from (hk5.old q (zAa HK4).lt).trans (zAa HNQ))
   clear hp5 hk5 e2 e3
   generalize w4.setCell ⟨(y.br i).a, k, none⟩ (.int .i64 (z + count)) = w5 at HP5 HK5 HKK ⊢
   obtain ⟨g0, g1, g2, g3, g4, g5, g6, g7, g8, g9, g10⟩ := zBl (zAa HK5)
   obtain ⟨f0, f1, f2, f3, f4, f5, f6, f7, f8, f9, f10⟩ := zBi (zAa HK5)
   go_wp2_with fail
   change bodyPost _ _ _ _ _ (wrT w5 q (tol0 0 0))
   have k9 := zCc (zAa HK5) rfl (tol0 0 0)
   have HO9 := hide (zBk w5 q (tol0 0 0))
   clear g0 g1 g2 g3 g4 g5 g6 g7 g8 g9 g10 f0 f1 f2 f3 f4 f5 f6 f7 f8 f9 f10
   generalize wrT w5 q (tol0 0 0) = w9 at k9 HO9 ⊢
   obtain ⟨d0, d1, d2, d3, d4, d5, d6, d7, d8, d9, d10⟩ := zAt k9
   refine bodyPost_ret (v := ((tol0 0 0)).val) (by simp [results, Tryz.results67, go_sem, d0, d1, d2, d3, d4, d5, d6, d7, d8, d9, d10, Tol.val]) rfl (zDf 0 (zAa HF) (Turned.mk_ (zAa HP5) (zAa HKK) (zAa HO9) (by rw [zAa HQ]; omega) (zAa HN5) (zAa HH).bw))
end
end
section
open Go.RowKit
structure HasR (P : World → Prop) where
 W : World
 h : P W
def treeO : OT := .fork (.next 19 (.next 20 (.next 21 .done))) (.next 20 (.next 19 (.next 21 .done)))
def stk5 (W : World) (b : Nat) (s : Stk) : World := ((((W.setCell ⟨b, 0, none⟩ (.int .i64 s.code)).setCell ⟨b, 1, none⟩ (.int .i64 s.id)).setCell ⟨b, 2, none⟩ (.int .i64 s.free)).setCell ⟨b, 3, none⟩ (.int .i64 s.held)).setCell ⟨b, 4, none⟩ (.int .i64 s.used)
theorem stk5_blk {W : World} {b : Nat} {cs : Array Value} (h : Blk W b 40 cs) (hs : cs.size = 5) (s : Stk) : Blk (stk5 W b s) b 40 #[.int .i64 s.code, .int .i64 s.id, .int .i64 s.free, .int .i64 s.held, .int .i64 s.used] := by
 have h8 := ((((h.set_ 0 (.int .i64 s.code)).set_ 1 (.int .i64 s.id)).set_ 2 (.int .i64 s.free)).set_ 3 (.int .i64 s.held)).set_ 4 (.int .i64 s.used)
 rw [arr5 cs hs] at h8
 exact h8
theorem zIv (W : World) (b : Nat) (s : Stk) : Only (fun k => k = b) W (stk5 W b s) := zAg (zAg (zAg (zAg (zAg (Only.refl _ W) 0 _) 1 _) 2 _) 3 _) 4 _
def OrdCut (w : World) (c : Cfg) (y : Lay) (S' : WS) (K base : Nat) (ow : Nat → Tag) (q b : Nat) (s : Stk) (W : World) : Prop :=
 ∃ ow', PW W c y S' K base ow' ∧ Kept w W ow ow' ∧ ow' q = .no ∧ Blk W q 57 (tol0 0 0).cells.toArray ∧ Blk W b 40 #[.int .i64 s.code, .int .i64 s.id, .int .i64 s.free, .int .i64 s.held, .int .i64 s.used]
def OrdR (c : Cfg) (b g p : Nat) (cs : Array Value) (W : World) : Prop := W.cell? ⟨b, 0, none⟩ = some (.slice (some ⟨g, 0, none⟩) c.m c.m) ∧ Blk W p 48 cs ∧ OrdT W
section
variable {w : World} {c : Cfg} {y : Lay} {S : WS} {K base : Nat} {ow : Nat → Tag}
theorem zIe {W : World} {S' : WS} {ow' : Nat → Tag} {i p : Nat} {cs : Array Value} (hp : PW W c y S' K base ow') (hi : i < c.n) (hk : Blk W p 48 cs) (ho : OrdT W) : OrdR c (y.br i).b (y.br i).s p cs W := ⟨((hp.pc .con).brs i hi).cell 0, hk, ho⟩
theorem zSh {w7 : World} {S' : WS} {ow7 : Nat → Tag} {q b : Nat} {cs : Array Value} (hp : PW w7 c y S' K base ow7) (hk : Kept w w7 ow ow7) (hqn : ow7 q = .no) (hq : Blk w7 q 57 (tol0 0 0).cells.toArray) (hb : Blk w7 b 40 cs) (hcs : cs.size = 5) (hbn : ow7 b = .no) (hbw : w.heap.size ≤ b) (hw : base ≤ w.heap.size) (s : Stk) : OrdCut w c y S' K base ow q b s (stk5 w7 b s) :=
 ⟨ow7, hp.own (zIv w7 b s) hbn (Nat.le_trans hw hbw), ⟨hk.only.trans (zIv w7 b s) (fun x hx e => by omega), hk.old⟩, hqn, hq.only (zIv w7 b s) (fun e => by have := hq.ne_ hb (by decide); exact this e), stk5_blk hb hcs s⟩
theorem OrdT.below {W : World} (h : OrdT w) (hg : 0 < base) (hb : Below base w W) : OrdT W := fun j hj => (hb.cell (p := ⟨_, j, none⟩) hg).trans (h j hj)
set_option maxRecDepth 100000 in
set_option maxHeartbeats 4000000 in
theorem zVp (h : PW w c y S K base ow) (N : Nat) (hS : S.ok c N) (hN : N ≤ 900000) (s : StpI) (i : Nat) (hi : i < c.n) (hw : s.who = i) (hT : OrdT w) (hg : 0 < base) (hk : s.kind = 2 ∨ s.kind = 3 ∨ s.kind = 4 ∨ s.kind = 5 ∨ s.kind = 6) (hb : 0 ≤ s.item ∧ s.item < c.m) :
    Calls Tryz.prog 67 #[.pointer (some ⟨y.hb, 0, none⟩), .pointer (some ⟨(y.br i).b, 0, none⟩), s.val] w (zBo w c y K base ow (zFz (zAz c S s i).1, (zAz c S s i).2)) := by
 obtain ⟨kind, who, item, count, life, id, label, key⟩ := s
 dsimp only at hk hw
 unfold StpI.val
 dsimp only
 obtain ⟨p, hp⟩ : ∃ p, p = w.heap.size := ⟨_, rfl⟩
 obtain ⟨q, hq⟩ : ∃ q, q = w.heap.size + 1 := ⟨_, rfl⟩
 obtain ⟨wx, hwx⟩ : ∃ wx, wx = (w.alloc (.cells #[.int .i64 kind, .int .i64 who, .int .i64 item, .int .i64 count, .int .i64 life, .int .i64 id, .int .i64 label, .int .i64 key] 48)).alloc (.cells (tol0 0 0).cells.toArray 57) := ⟨_, rfl⟩
 have hbx : Below w.heap.size w wx := by rw [hwx]; exact ((Below.refl _ _).alloc (Nat.le_refl _) _).alloc (by simp) _
 have kp : Blk wx p 48 #[.int .i64 kind, .int .i64 who, .int .i64 item, .int .i64 count, .int .i64 life, .int .i64 id, .int .i64 label, .int .i64 key] := by rw [hwx, hp]; exact (Blk.new w _ _).alloc _
 have kq : Blk wx q 57 (tol0 0 0).cells.toArray := by
  have h1 := Blk.new (w.alloc (.cells #[.int .i64 kind, .int .i64 who, .int .i64 item, .int .i64 count, .int .i64 life, .int .i64 id, .int .i64 label, .int .i64 key] 48)) 57 (tol0 0 0).cells.toArray
  rw [hwx, hq]
  simpa using h1
 have hx := h.calm hbx
 have HNO := hide (fun e W => zCi e W)
 unfold tol0 zAy Tol.val Stk.none at HNO
 dsimp only at HNO
 have s0 : wx.cell? ⟨p, 0, none⟩ = some (.int .i64 kind) := kp.cell 0
 have s1 : wx.cell? ⟨p, 1, none⟩ = some (.int .i64 who) := kp.cell 1
 have s2 : wx.cell? ⟨p, 2, none⟩ = some (.int .i64 item) := kp.cell 2
 have s3 : wx.cell? ⟨p, 3, none⟩ = some (.int .i64 count) := kp.cell 3
 have s4 : wx.cell? ⟨p, 4, none⟩ = some (.int .i64 life) := kp.cell 4
 have s5 : wx.cell? ⟨p, 5, none⟩ = some (.int .i64 id) := kp.cell 5
 have s6 : wx.cell? ⟨p, 6, none⟩ = some (.int .i64 label) := kp.cell 6
 have s7 : wx.cell? ⟨p, 7, none⟩ = some (.int .i64 key) := kp.cell 7
 have HX := hide hx
 have HKP := hide kp
 have HKQ := hide kq
 have HBX := hide hbx
 have HP := hide hp
 have HQ := hide hq
 have HH := hide h
 have HWX := hide hwx
 have HNQ := hide (show ow q = .no from h.fresh q (by omega))
 have HNP := hide (show ow p = .no from h.fresh p (by omega))
 have hm3 := (zAj h.may).2.2.2.1
 dsimp only at hb
 obtain ⟨k, hkk⟩ : ∃ k : Nat, item = k := ⟨item.toNat, by omega⟩
 subst hkk
 have hkm : k < c.m := by omega
 have HE := hide (show zAz c S ⟨kind, who, k, count, life, id, label, key⟩ i = (⟨((S.sh i k).does ⟨kind, count, life, id⟩).2.code, i, { ((S.sh i k).does ⟨kind, count, life, id⟩).2 with code := 0 }, 0, [], [], []⟩, { S with sh := upd1 S.sh i (upd1 (S.sh i) k ((S.sh i k).does ⟨kind, count, life, id⟩).1) }) by
  unfold zAz
  dsimp only
  rw [if_neg (by omega), if_neg (by omega), if_neg (by omega), Int.toNat_natCast])
 have HDO := hide (fun W (hW : Below wx.heap.size wx W) => zJn (ow := ow) ⟨kind, count, life, id⟩ i k (hx.calm hW) hi hkm N (hS.sh i k) (by omega))
 generalize (S.sh i k).does ⟨kind, count, life, id⟩ = r at HDO HE
 obtain ⟨sB, ⟨rc, ri, rf, rh, ru⟩⟩ := r
 unfold Stk.val Ordr.val at HDO
 dsimp only at HDO HE
 have hbw : Below base w wx := hbx.mono h.bw
 have hTw := hT
 have HOT := hide (show OrdT wx from fun j hj => (hbw.cell (p := ⟨_, j, none⟩) hg).trans (hT j hj))
 have d0 : wx.cell? ⟨(y.br i).b, 0, none⟩ = some (.slice (some ⟨(y.br i).s, 0, none⟩) c.m c.m) := ((hx.pc .con).brs i hi).cell 0
 have d1 : wx.cell? ⟨(y.br i).b, 1, none⟩ = some (.slice (some ⟨(y.br i).a, 0, none⟩) c.m c.m) := ((hx.pc .con).brs i hi).cell 1
 have D0 := hide d0
 clear hx kp kq hbx hp hq h hwx s1 s6 s7 hw d0 hbw hT
 have b1 : decide ((k : Int) < 0) = false := by simp
 have b2 : decide ((c.m : Int) ≤ (k : Int)) = false := by simp; omega
 have b3 : decide (c.m ≤ k) = false := by simp; omega
 have hkm2 : (k : Int) < (c.m : Int) := by omega
 obtain ⟨kk, hkk⟩ : ∃ kk : Nat, kind = (kk : Int) + 2 := ⟨(kind - 2).toNat, by omega⟩
 subst hkk
 have hk5 : kk < 5 := by omega
 have a1 : ((kk : Int) + 2 == 1) = false := by simp only [beq_eq_false_iff_ne]; omega
 have a7 : ((kk : Int) + 2 == 7) = false := by simp only [beq_eq_false_iff_ne]; omega
 have a8 : ((kk : Int) + 2 == 8) = false := by simp only [beq_eq_false_iff_ne]; omega
 have hk5' : (kk : Int) < 5 := by omega
 go_enter Tryz.func67, Tryz.ntmps67
 go_upto_region 1 with fail
 rw [show (#[.int .i64 0, .int .i64 0, .int .i64 0, .int .i64 0, .int .i64 0, .int .i64 0, .int .i64 0, .int .i64 0, .slice none 0 0, .slice none 0 0, .slice none 0 0] : Array Value) = (tol0 0 0).cells.toArray from rfl, ← zAa HWX, ← zAa HQ, ← zAa HP]
 go_upto_region 3 with fail
 go_quiet (fail)
 have HW := hide (below_drewN (Below.refl wx.heap.size wx) nq)
 generalize wx.drewN nq = w2 at HW ⊢
 clear d1 s0 s2 s3 s4 s5
 have r0 := Ext.cell (w := wx) ⟨w2, zAa HW⟩ ((zAa HKP).cell 0)
 go_upto_region 12 with fail
 clear r0
 go_cut [7] (fun s7 W => ∃ bs, s7 = .pointer (some ⟨bs, 0, none⟩) ∧ Hid (OrdCut w c y { S with sh := upd1 S.sh i (upd1 (S.sh i) k sB) } K base ow q bs ⟨rc, ri, rf, rh, ru⟩ W))
 case first =>
  obtain ⟨cs, hcs⟩ : ∃ cs : Array Value, cs = #[.int .i64 ((kk : Int) + 2), .int .i64 who, .int .i64 (k : Int), .int .i64 count, .int .i64 life, .int .i64 id, .int .i64 label, .int .i64 key] := ⟨_, rfl⟩
  have HKS := hide (show Blk w2 p 48 cs by rw [hcs]; exact (zAa HKP).below (zAa HW) (zAa HKP).lt)
  have hR2 : OrdR c (y.br i).b (y.br i).s p cs w2.drew := zIe ((zAa HX).calm ((zAa HW).drew)) hi (zAa HKS).drew ((zAa HOT).below (base := wx.heap.size) (Nat.lt_of_lt_of_le hg (zAa HX).bw) ((zAa HW).drew))
  have t0 := fun n : HasR (OrdR c (y.br i).b (y.br i).s p cs) => n.h.1
  have t1 : ∀ n : HasR (OrdR c (y.br i).b (y.br i).s p cs), n.W.cell? ⟨p, 0, none⟩ = some (.int .i64 ((kk : Int) + 2)) := fun n => by rw [n.h.2.1.cell 0, hcs]; rfl
  have t2 : ∀ n : HasR (OrdR c (y.br i).b (y.br i).s p cs), n.W.cell? ⟨p, 2, none⟩ = some (.int .i64 (k : Int)) := fun n => by rw [n.h.2.1.cell 2, hcs]; rfl
  have t3 : ∀ n : HasR (OrdR c (y.br i).b (y.br i).s p cs), n.W.cell? ⟨p, 3, none⟩ = some (.int .i64 count) := fun n => by rw [n.h.2.1.cell 3, hcs]; rfl
  have t4 : ∀ n : HasR (OrdR c (y.br i).b (y.br i).s p cs), n.W.cell? ⟨p, 4, none⟩ = some (.int .i64 life) := fun n => by rw [n.h.2.1.cell 4, hcs]; rfl
  have t5 : ∀ n : HasR (OrdR c (y.br i).b (y.br i).s p cs), n.W.cell? ⟨p, 5, none⟩ = some (.int .i64 id) := fun n => by rw [n.h.2.1.cell 5, hcs]; rfl
  have t6 : ∀ n : HasR (OrdR c (y.br i).b (y.br i).s p cs), n.W.cell? ⟨0, kk, none⟩ = some (.int .i64 ((kk : Int) + 2)) := fun n => n.h.2.2 kk hk5
  haveI hne : Nonempty (HasR (OrdR c (y.br i).b (y.br i).s p cs)) := ⟨⟨_, hR2⟩⟩
  clear hcs
  refine zFa (C := fun w' => ∃ n : HasR (OrdR c (y.br i).b (y.br i).s p cs), w' = n.W) [0, 1, 2, 3, 4, 5, 6, 7, 8, 9, 10, 11, 12, 13, 14, 15, 16, 17, 18] [19, 20, 21] treeO (by kernel_rfl) (by kernel_rfl) (by intro c a d v w h; cases d <;> exact h) ⟨⟨_, hR2⟩, rfl⟩ ?_
  simp only [zAb, List.map_cons, List.map_nil, List.getD_cons_zero, List.getD_cons_succ]
  repeat (go_big_quiet_step (fail))
  refine wpQuiet_nil ?_
  have hd0 : Below wx.heap.size wx w2.drew := (zAa HW).drew
  have hPd := (zAa HKS).drew
  generalize w2.drew = wd at hd0 hPd hR2 ⊢
  have hQd := (zAa HKQ).below hd0 (zAa HKQ).lt
  have hOd := hR2.2.2
  have hOw : OrdT w := hTw
  clear t0 t1 t2 t3 t4 t5 t6 hR2
  unfold treeO
  refine zAm ?_ ?_
  ·refine zAc fun K0 hK0 => ?_
   simp only [zAb, List.map_cons, List.map_nil, List.getD_cons_zero, List.getD_cons_succ]
   go_wp2_with fail
   refine (zAa HDO wd hd0).mono ?_
   rintro _ w7 ⟨rfl, ow7, hp7, hk7⟩
   have hkk : Kept w w7 ow ow7 := (Kept.calm ((zAa HBX).trans (hd0.mono (zAa HBX).size))).trans hk7
   have hQ7 := hk7.blk hQd (zAa HNQ)
   have hP7 := hk7.blk hPd (zAa HNP)
   have hq7 : ow7 q = .no := (hk7.old q hQd.lt).trans (zAa HNQ)
   have hOO := hOw.below hg (hkk.below (zAa HH))
   go_wp2_with fail
   refine hK0 _ w7 (fun _ => ⟨⟨_, zIe hp7 hi hP7 hOO⟩, rfl⟩) ?_
   clear hK0 K0
   refine zAc fun K0 hK0 => ?_
   simp only [zAb, List.map_cons, List.map_nil, List.getD_cons_zero, List.getD_cons_succ]
   go_wp2_with fail
   obtain ⟨w8, hw8⟩ : ∃ w8, w8 = w7.alloc (.cells #[.int .i64 0, .int .i64 0, .int .i64 0, .int .i64 0, .int .i64 0] 40) := ⟨_, rfl⟩
   obtain ⟨bs, hbs⟩ : ∃ bs, bs = w7.heap.size := ⟨_, rfl⟩
   have hb8 : Below w7.heap.size w7 w8 := by rw [hw8]; exact (Below.refl _ _).alloc (Nat.le_refl _) _
   have kb : Blk w8 bs 40 #[.int .i64 0, .int .i64 0, .int .i64 0, .int .i64 0, .int .i64 0] := by rw [hw8, hbs]; exact Blk.new _ _ _
   rw [← hw8, ← hbs]
   have hPP := hP7.below hb8 hP7.lt
   have hbw : w.heap.size ≤ bs := by rw [hbs]; exact hkk.only.size
   have hcut := zSh (hp7.calm hb8) (hkk.trans (Kept.calm hb8)) hq7 (hQ7.below hb8 hQ7.lt) kb rfl (hp7.fresh bs (by omega)) hbw (zAa HH).bw ⟨rc, ri, rf, rh, ru⟩
   refine hK0 _ w8 (fun _ => ⟨⟨_, zIe (hp7.calm hb8) hi hPP (hOw.below hg ((hkk.trans (Kept.calm hb8)).below (zAa HH)))⟩, rfl⟩) ?_
   clear hK0 K0 hw8 hbs
   have q0 : w8.cell? ⟨bs, 0, none⟩ = some (.int .i64 0) := kb.cell 0
   have q1 : w8.cell? ⟨bs, 1, none⟩ = some (.int .i64 0) := kb.cell 1
   have q2 : w8.cell? ⟨bs, 2, none⟩ = some (.int .i64 0) := kb.cell 2
   have q3 : w8.cell? ⟨bs, 3, none⟩ = some (.int .i64 0) := kb.cell 3
   have q4 : w8.cell? ⟨bs, 4, none⟩ = some (.int .i64 0) := kb.cell 4
   have f0 := kb.frozen 0
   have f1 := kb.frozen 1
   have f2 := kb.frozen 2
   have f3 := kb.frozen 3
   have f4 := kb.frozen 4
   refine zAc fun K0 hK0 => ?_
   simp only [zAb, List.map_cons, List.map_nil, List.getD_cons_zero, List.getD_cons_succ]
   go_wp2_with fail
   refine hK0 _ (stk5 w8 bs ⟨rc, ri, rf, rh, ru⟩) (fun _ => ⟨⟨_, zIe (hcut.choose_spec.1) hi (hPP.only (zIv w8 bs ⟨rc, ri, rf, rh, ru⟩) (fun e => hPP.ne_ kb (by decide) e)) (hOw.below hg ((hcut.choose_spec.2.1).below (zAa HH)))⟩, rfl⟩) ?_
   refine zBg ?_
   go_wp2_with fail
   go_meet
   exact ⟨bs, rfl, hide hcut⟩
  ·refine zAc fun K0 hK0 => ?_
   simp only [zAb, List.map_cons, List.map_nil, List.getD_cons_zero, List.getD_cons_succ]
   go_wp2_with fail
   obtain ⟨w6, hw6⟩ : ∃ w6, w6 = wd.alloc (.cells #[.int .i64 0, .int .i64 0, .int .i64 0, .int .i64 0, .int .i64 0] 40) := ⟨_, rfl⟩
   obtain ⟨bs, hbs⟩ : ∃ bs, bs = wd.heap.size := ⟨_, rfl⟩
   have hb6 : Below wd.heap.size wd w6 := by rw [hw6]; exact (Below.refl _ _).alloc (Nat.le_refl _) _
   have kb : Blk w6 bs 40 #[.int .i64 0, .int .i64 0, .int .i64 0, .int .i64 0, .int .i64 0] := by rw [hw6, hbs]; exact Blk.new _ _ _
   rw [← hw6, ← hbs]
   have hd6 := hd0.trans (hb6.mono hd0.size)
   have hbn : ow bs = .no := ((zAa HX).calm hd0).fresh bs (by omega)
   have hbw : w.heap.size ≤ bs := by rw [hbs]; exact Nat.le_trans (zAa HBX).size hd0.size
   have hP6 := hPd.below hb6 hPd.lt
   refine hK0 _ w6 (fun _ => ⟨⟨_, zIe ((zAa HX).calm hd6) hi hP6 (hOw.below hg ((Kept.calm ((zAa HBX).trans (hd6.mono (zAa HBX).size))).below (zAa HH)))⟩, rfl⟩) ?_
   clear hK0 K0 hw6 hbs
   refine zAc fun K0 hK0 => ?_
   simp only [zAb, List.map_cons, List.map_nil, List.getD_cons_zero, List.getD_cons_succ]
   go_wp2_with fail
   refine (zAa HDO w6 hd6).mono ?_
   rintro _ w7 ⟨rfl, ow7, hp7, hk7⟩
   have hkk : Kept w w7 ow ow7 := (Kept.calm ((zAa HBX).trans (hd6.mono (zAa HBX).size))).trans hk7
   have hQ7 := hk7.blk (hQd.below hb6 hQd.lt) (zAa HNQ)
   have hPP := hk7.blk hP6 (zAa HNP)
   have hbn7 : ow7 bs = .no := (hk7.old bs kb.lt).trans hbn
   have hq7 : ow7 q = .no := (hk7.old q (hQd.below hb6 hQd.lt).lt).trans (zAa HNQ)
   have kb := hk7.blk kb hbn
   have hcut := zSh hp7 hkk hq7 hQ7 kb rfl hbn7 hbw (zAa HH).bw ⟨rc, ri, rf, rh, ru⟩
   go_wp2_with fail
   refine hK0 _ w7 (fun _ => ⟨⟨_, zIe hp7 hi hPP (hOw.below hg (hkk.below (zAa HH)))⟩, rfl⟩) ?_
   clear hK0 K0
   have q0 : w7.cell? ⟨bs, 0, none⟩ = some (.int .i64 0) := kb.cell 0
   have q1 : w7.cell? ⟨bs, 1, none⟩ = some (.int .i64 0) := kb.cell 1
   have q2 : w7.cell? ⟨bs, 2, none⟩ = some (.int .i64 0) := kb.cell 2
   have q3 : w7.cell? ⟨bs, 3, none⟩ = some (.int .i64 0) := kb.cell 3
   have q4 : w7.cell? ⟨bs, 4, none⟩ = some (.int .i64 0) := kb.cell 4
   have f0 := kb.frozen 0
   have f1 := kb.frozen 1
   have f2 := kb.frozen 2
   have f3 := kb.frozen 3
   have f4 := kb.frozen 4
   refine zAc fun K0 hK0 => ?_
   simp only [zAb, List.map_cons, List.map_nil, List.getD_cons_zero, List.getD_cons_succ]
   go_wp2_with fail
   refine hK0 _ (stk5 w7 bs ⟨rc, ri, rf, rh, ru⟩) (fun _ => ⟨⟨_, zIe (hcut.choose_spec.1) hi (hPP.only (zIv w7 bs ⟨rc, ri, rf, rh, ru⟩) (fun e => hPP.ne_ kb (by decide) e)) (hOw.below hg ((hcut.choose_spec.2.1).below (zAa HH)))⟩, rfl⟩) ?_
   refine zBg ?_
   go_wp2_with fail
   go_meet
   exact ⟨bs, rfl, hide hcut⟩
 case rest =>
  obtain ⟨bs, rfl, HC⟩ := hcut
  obtain ⟨owc, hpc, hkc, hqc, hQc, hbc⟩ := zAa HC
  have v0 : wc.cell? ⟨bs, 0, none⟩ = some (.int .i64 rc) := hbc.cell 0
  have v1 : wc.cell? ⟨bs, 1, none⟩ = some (.int .i64 ri) := hbc.cell 1
  have v2 : wc.cell? ⟨bs, 2, none⟩ = some (.int .i64 rf) := hbc.cell 2
  have v3 : wc.cell? ⟨bs, 3, none⟩ = some (.int .i64 rh) := hbc.cell 3
  have v4 : wc.cell? ⟨bs, 4, none⟩ = some (.int .i64 ru) := hbc.cell 4
  have HPC := hide hpc
  have HKC := hide hkc
  have HNC := hide hqc
  have HQC := hide hQc
  clear hpc hkc hqc hQc hbc
  go_upto_region 14 with fail
  obtain ⟨w8, hw8⟩ : ∃ w8, w8 = wc.alloc (.cells #[.int .i64 rc, .int .i64 0, .int .i64 rc, .int .i64 ri, .int .i64 rf, .int .i64 rh, .int .i64 ru, .int .i64 0, .slice none 0 0, .slice none 0 0, .slice none 0 0] 57) := ⟨_, rfl⟩
  obtain ⟨b8, hb8⟩ : ∃ b8, b8 = wc.heap.size := ⟨_, rfl⟩
  have kb : Blk w8 b8 57 #[.int .i64 rc, .int .i64 0, .int .i64 rc, .int .i64 ri, .int .i64 rf, .int .i64 rh, .int .i64 ru, .int .i64 0, .slice none 0 0, .slice none 0 0, .slice none 0 0] := by rw [hw8, hb8]; exact Blk.new _ _ _
  have hbl : Below wc.heap.size wc w8 := by rw [hw8]; exact (Below.refl _ _).alloc (Nat.le_refl _) _
  rw [← hw8, ← hb8]
  have HP8 := hide ((zAa HPC).calm hbl)
  have HK8 := hide ((zAa HKC).trans (Kept.calm hbl))
  have HQ8 := hide ((zAa HQC).below hbl (zAa HQC).lt)
  have HN8 := hide (show owc b8 = .no from (zAa HPC).fresh b8 (by omega))
  have HL8 := hide (show w.heap.size ≤ b8 from by rw [hb8]; exact (zAa HKC).only.size)
  have HNE := hide (show q ≠ b8 from fun e => by have := (zAa HQC).lt; omega)
  have x2 : w8.cell? ⟨b8, 2, none⟩ = some (.int .i64 rc) := kb.cell 2
  have y2 := kb.frozen 2
  have HKB := hide kb
  clear hw8 hb8 kb hbl v0 v1 v2 v3 v4
  go_upto_region 15 with fail
  have k9 := (zAa HKB).set_ 2 (.int .i64 0)
  have ho9 : Only (fun k => k = b8) w8 (w8.setCell ⟨b8, 2, none⟩ (.int .i64 0)) := zAg (Only.refl _ w8) 2 _
  have HKT := hide (show Blk (w8.setCell ⟨b8, 2, none⟩ (.int .i64 0)) b8 57 ((⟨⟨rc, 0, ⟨0, ri, rf, rh, ru⟩, 0, [], [], []⟩, none, 0, 0, none, 0, 0, none, 0, 0⟩ : Tol)).cells.toArray from k9)
  have HP9 := hide ((zAa HP8).own ho9 (zAa HN8) (Nat.le_trans (zAa HH).bw (zAa HL8)))
  have HKK := hide (show Kept w (w8.setCell ⟨b8, 2, none⟩ (.int .i64 0)) ow owc from ⟨(zAa HK8).only.trans ho9 (fun x hx e => by have := zAa HL8; omega), (zAa HK8).old⟩)
  have HQ9 := hide ((zAa HQ8).only ho9 (fun e => zAa HNE e))
  clear k9 ho9 x2 y2
  generalize w8.setCell ⟨b8, 2, none⟩ (.int .i64 0) = w9 at HKT HP9 HKK HQ9 ⊢
  obtain ⟨x0, x1, x2, x3, x4, x5, x6, x7, x8, x9, x10⟩ := zAt (zAa HKT)
  obtain ⟨g0, g1, g2, g3, g4, g5, g6, g7, g8, g9, g10⟩ := zBl (zAa HQ9)
  obtain ⟨f0, f1, f2, f3, f4, f5, f6, f7, f8, f9, f10⟩ := zBi (zAa HQ9)
  go_wp2_with fail
  change bodyPost _ _ _ _ _ (wrT w9 q (⟨⟨rc, 0, ⟨0, ri, rf, rh, ru⟩, 0, [], [], []⟩, none, 0, 0, none, 0, 0, none, 0, 0⟩ : Tol))
  have k9 := zCc (zAa HQ9) rfl (⟨⟨rc, 0, ⟨0, ri, rf, rh, ru⟩, 0, [], [], []⟩, none, 0, 0, none, 0, 0, none, 0, 0⟩ : Tol)
  have HO9 := hide (zBk w9 q (⟨⟨rc, 0, ⟨0, ri, rf, rh, ru⟩, 0, [], [], []⟩, none, 0, 0, none, 0, 0, none, 0, 0⟩ : Tol))
  clear g0 g1 g2 g3 g4 g5 g6 g7 g8 g9 g10 f0 f1 f2 f3 f4 f5 f6 f7 f8 f9 f10
  generalize wrT w9 q (⟨⟨rc, 0, ⟨0, ri, rf, rh, ru⟩, 0, [], [], []⟩, none, 0, 0, none, 0, 0, none, 0, 0⟩ : Tol) = w10 at k9 HO9 ⊢
  obtain ⟨d0, d1, d2, d3, d4, d5, d6, d7, d8, d9, d10⟩ := zAt k9
  refine bodyPost_ret (v := ((⟨⟨rc, 0, ⟨0, ri, rf, rh, ru⟩, 0, [], [], []⟩, none, 0, 0, none, 0, 0, none, 0, 0⟩ : Tol)).val) (by simp [results, Tryz.results67, go_sem, d0, d1, d2, d3, d4, d5, d6, d7, d8, d9, d10, Tol.val]) rfl (⟨(⟨⟨rc, 0, ⟨0, ri, rf, rh, ru⟩, 0, [], [], []⟩, none, 0, 0, none, 0, 0, none, 0, 0⟩ : Tol), rfl, by rw [zAa HE]; rfl, ⟨World.ownsRow_nil _ _ _ _, World.ownsRow_nil _ _ _ _, World.ownsRow_nil _ _ _ _⟩, by rw [zAa HE]; obtain ⟨o1, h1, h2⟩ := Turned.mk_ (zAa HP9) (zAa HKK) (zAa HO9) (by rw [zAa HQ]; omega) (zAa HNC) (zAa HH).bw; exact ⟨o1, h1, h2, fun v hv k hk => by rcases hv with rfl | rfl | rfl <;> cases hk⟩⟩)
theorem yAu (h : PW w c y S K base ow) (N : Nat) (hS : S.ok c N) (hN : N ≤ 900000) (hT : OrdT w) (hg : 0 < base) (s : StpI) (i : Nat) (hi : i < c.n) (hw : s.who = i) (hk : 1 ≤ s.kind ∧ s.kind ≤ 8) :
    Calls Tryz.prog 67 #[.pointer (some ⟨y.hb, 0, none⟩), .pointer (some ⟨(y.br i).b, 0, none⟩), s.val] w (zBo w c y K base ow (zFz (zAz c S s i).1, (zAz c S s i).2)) := by
 by_cases h78 : s.kind = 7 ∨ s.kind = 8
 ·exact zUy h N hS hN s i hi hw h78
 by_cases hb : s.item < 0 ∨ (c.m : Int) ≤ s.item
 ·exact zVt h N hS hN s i hi hw h78 hb
 by_cases h1 : s.kind = 1
 ·exact yAa h N hS hN s i hi hw h1 (by omega)
 ·exact zVp h N hS hN s i hi hw hT hg (by omega) (by omega)
end
end
end Go.Proofs.YtbolcebmbpepdaaGreatDoor
