/- Contracts and plain facts, set together by program out of smaller texts. Conditions: none beyond what each theorem states. -/
import Derived.Deep.RegionHeld3
import Derived.Test.YtbolcebmbpepdaaGreatDoorM28
namespace Go.Proofs.YtbolcebmbpepdaaGreatDoor
set_option linter.unusedVariables false
section
open Go.RowKit
def zDb (d : StpI) (ahead : Int) : StpI :=
 let k := d.kind % 24
 let s : StpI := ⟨1, d.who % 4, d.item % 2, 1 + d.count % 9, 1 + d.life % 5, 1 + d.id % 5, d.label % 3, d.key % 4⟩
 if k < 2 then s
 else if k < 8 then { s with kind := if k = 2 then 2 else k - 1 }
 else if k < 10 then { s with kind := 7 }
 else if k = 10 then { s with kind := 8 }
 else if k < 13 then zEv
 else if k < 14 then ⟨11, 0, 0, 0, 0, d.id % (ahead + 1), 0, 0⟩
 else zFu (d.id % (ahead + 1))
def stpZero : StpI := ⟨0, 0, 0, 0, 0, 0, 0, 0⟩
def wrS (W : World) (b : Nat) (s : StpI) : World :=
 (((((((W.setCell ⟨b, 0, none⟩ (.int .i64 s.kind)).setCell ⟨b, 1, none⟩ (.int .i64 s.who)).setCell ⟨b, 2, none⟩ (.int .i64 s.item)).setCell ⟨b, 3, none⟩ (.int .i64 s.count)).setCell ⟨b, 4, none⟩ (.int .i64 s.life)).setCell ⟨b, 5, none⟩ (.int .i64 s.id)).setCell ⟨b, 6, none⟩ (.int .i64 s.label)).setCell ⟨b, 7, none⟩ (.int .i64 s.key)
theorem zFn {W : World} {b : Nat} {cs : Array Value} (h : Blk W b 48 cs) (hs : cs.size = 8) (s : StpI) : Blk (wrS W b s) b 48 s.cells.toArray := by
 have h8 := (((((((h.set_ 0 (.int .i64 s.kind)).set_ 1 (.int .i64 s.who)).set_ 2 (.int .i64 s.item)).set_ 3 (.int .i64 s.count)).set_ 4 (.int .i64 s.life)).set_ 5 (.int .i64 s.id)).set_ 6 (.int .i64 s.label)).set_ 7 (.int .i64 s.key)
 have e : ((((((((cs.setIfInBounds 0 (.int .i64 s.kind)).setIfInBounds 1 (.int .i64 s.who)).setIfInBounds 2 (.int .i64 s.item)).setIfInBounds 3 (.int .i64 s.count)).setIfInBounds 4 (.int .i64 s.life)).setIfInBounds 5 (.int .i64 s.id)).setIfInBounds 6 (.int .i64 s.label)).setIfInBounds 7 (.int .i64 s.key)) = s.cells.toArray := by
  rw [← Array.toList_inj]
  simp only [Array.toList_setIfInBounds, StpI.cells]
  have hl : cs.toList.length = 8 := by simpa using hs
  generalize cs.toList = l at hl
  match l, hl with
  | [a, b, c, d, e, f, g, h], _ => rfl
 rw [e] at h8
 exact h8
theorem zEo (W : World) (b : Nat) (s : StpI) : Only (fun k => k = b) W (wrS W b s) :=
 zAg (zAg (zAg (zAg (zAg (zAg (zAg (zAg (Only.refl _ W) 0 _) 1 _) 2 _) 3 _) 4 _) 5 _) 6 _) 7 _
theorem zAs {W : World} {b : Nat} {s : StpI} (h : Blk W b 48 s.cells.toArray) : W.cell? ⟨b, 0, none⟩ = some (.int .i64 s.kind) ∧ W.cell? ⟨b, 1, none⟩ = some (.int .i64 s.who) ∧ W.cell? ⟨b, 2, none⟩ = some (.int .i64 s.item) ∧ W.cell? ⟨b, 3, none⟩ = some (.int .i64 s.count) ∧ W.cell? ⟨b, 4, none⟩ = some (.int .i64 s.life) ∧ W.cell? ⟨b, 5, none⟩ = some (.int .i64 s.id) ∧ W.cell? ⟨b, 6, none⟩ = some (.int .i64 s.label) ∧ W.cell? ⟨b, 7, none⟩ = some (.int .i64 s.key) := ⟨h.cell 0, h.cell 1, h.cell 2, h.cell 3, h.cell 4, h.cell 5, h.cell 6, h.cell 7⟩
theorem zDq {W : World} {b : Nat} {cs : Array Value} (h : Blk W b 48 cs) : W.frozen? ⟨b, 0, none⟩ = false ∧ W.frozen? ⟨b, 1, none⟩ = false ∧ W.frozen? ⟨b, 2, none⟩ = false ∧ W.frozen? ⟨b, 3, none⟩ = false ∧ W.frozen? ⟨b, 4, none⟩ = false ∧ W.frozen? ⟨b, 5, none⟩ = false ∧ W.frozen? ⟨b, 6, none⟩ = false ∧ W.frozen? ⟨b, 7, none⟩ = false := ⟨h.frozen 0, h.frozen 1, h.frozen 2, h.frozen 3, h.frozen 4, h.frozen 5, h.frozen 6, h.frozen 7⟩
def StCutK (w : World) (q b p : Nat) (dcs : Array Value) (s : StpI) (W : World) : Prop :=
 Blk W b 48 s.cells.toArray ∧ Blk W p 106 dcs ∧ Blk W q 48 stpZero.cells.toArray ∧ b ≠ q ∧ w.heap.size ≤ b ∧ Below w.heap.size w W
theorem yEe {w wx : World} {q p : Nat} {dcs : Array Value} (s : StpI) (hbx : Below w.heap.size w wx) (kp : Blk wx p 106 dcs) (kq : Blk wx q 48 stpZero.cells.toArray) : StCutK w q wx.heap.size p dcs s ((wx.alloc (.cells s.cells.toArray 48)).drew) := by
 have hb : Below wx.heap.size wx ((wx.alloc (.cells s.cells.toArray 48)).drew) := ((Below.refl _ _).alloc (Nat.le_refl _) _).drew
 exact ⟨(Blk.new wx _ _).drew, kp.below hb kp.lt, kq.below hb kq.lt, fun e => by have := kq.lt; omega, hbx.size, hbx.trans (hb.mono hbx.size)⟩
set_option maxRecDepth 100000 in
set_option maxHeartbeats 4000000 in
theorem yAy (d : StpI) (ahead : Int) (w : World) (ha : 0 ≤ ahead ∧ ahead ≤ 100000) :
    Calls Tryz.prog 32 #[d.val, .int .i64 ahead] w fun e w' => e = .returned (zDb d ahead).val ∧ Below w.heap.size w w' := by
 obtain ⟨kind, who, item, count, life, id, label, key⟩ := d
 unfold StpI.val
 dsimp only
 obtain ⟨p, hp⟩ : ∃ p, p = w.heap.size := ⟨_, rfl⟩
 obtain ⟨q, hq⟩ : ∃ q, q = w.heap.size + 1 := ⟨_, rfl⟩
 obtain ⟨wx, hwx⟩ : ∃ wx, wx = (w.alloc (.cells #[.int .i64 kind, .int .i64 who, .int .i64 item, .int .i64 count, .int .i64 life, .int .i64 id, .int .i64 label, .int .i64 key] 106)).alloc (.cells #[.int .i64 0, .int .i64 0, .int .i64 0, .int .i64 0, .int .i64 0, .int .i64 0, .int .i64 0, .int .i64 0] 48) := ⟨_, rfl⟩
 have hbx : Below w.heap.size w wx := by rw [hwx]; exact ((Below.refl _ _).alloc (Nat.le_refl _) _).alloc (by simp) _
 have kp : Blk wx p 106 #[.int .i64 kind, .int .i64 who, .int .i64 item, .int .i64 count, .int .i64 life, .int .i64 id, .int .i64 label, .int .i64 key] := by rw [hwx, hp]; exact (Blk.new w _ _).alloc _
 have kq : Blk wx q 48 #[.int .i64 0, .int .i64 0, .int .i64 0, .int .i64 0, .int .i64 0, .int .i64 0, .int .i64 0, .int .i64 0] := by
  have h1 := Blk.new (w.alloc (.cells #[.int .i64 kind, .int .i64 who, .int .i64 item, .int .i64 count, .int .i64 life, .int .i64 id, .int .i64 label, .int .i64 key] 106)) 48 #[.int .i64 0, .int .i64 0, .int .i64 0, .int .i64 0, .int .i64 0, .int .i64 0, .int .i64 0, .int .i64 0]
  rw [hwx, hq]
  simpa using h1
 have s0 : wx.cell? ⟨p, 0, none⟩ = some (.int .i64 kind) := kp.cell 0
 have s1 : wx.cell? ⟨p, 1, none⟩ = some (.int .i64 who) := kp.cell 1
 have s2 : wx.cell? ⟨p, 2, none⟩ = some (.int .i64 item) := kp.cell 2
 have s3 : wx.cell? ⟨p, 3, none⟩ = some (.int .i64 count) := kp.cell 3
 have s4 : wx.cell? ⟨p, 4, none⟩ = some (.int .i64 life) := kp.cell 4
 have s5 : wx.cell? ⟨p, 5, none⟩ = some (.int .i64 id) := kp.cell 5
 have s6 : wx.cell? ⟨p, 6, none⟩ = some (.int .i64 label) := kp.cell 6
 have s7 : wx.cell? ⟨p, 7, none⟩ = some (.int .i64 key) := kp.cell 7
 have HPI := hide (fun a n W (h : 1 ≤ n ∧ n ≤ 1000000) => zDo a n W h)
 have hb1 : 0 ≤ count % 9 ∧ count % 9 < 9 := by omega
 have hb2 : 0 ≤ life % 5 ∧ life % 5 < 5 := by omega
 have hb3 : 0 ≤ id % 5 ∧ id % 5 < 5 := by omega
 have HP := hide hp
 have HQ := hide hq
 have HBX := hide hbx
 have HKP := hide kp
 have HKQ := hide kq
 have HWX := hide hwx
 clear hwx hp hq hbx kp kq
 go_enter Tryz.func32, Tryz.ntmps32
 go_upto_region 1 with fail
 rw [← zAa HWX, ← zAa HQ, ← zAa HP]
 go_cut [5] (fun s5 W => ∃ b, s5 = .pointer (some ⟨b, 0, none⟩) ∧ Hid (StCutK w q b p #[.int .i64 kind, .int .i64 who, .int .i64 item, .int .i64 count, .int .i64 life, .int .i64 id, .int .i64 label, .int .i64 key] ⟨1, who % 4, item % 2, 1 + count % 9, 1 + life % 5, 1 + id % 5, label % 3, key % 4⟩ W))
 case first =>
  go_region_held3 (fun w' => w'.cell? ⟨p, 1, none⟩ = some (.int .i64 who) ∧ w'.cell? ⟨p, 2, none⟩ = some (.int .i64 item) ∧ w'.cell? ⟨p, 3, none⟩ = some (.int .i64 count) ∧ w'.cell? ⟨p, 4, none⟩ = some (.int .i64 life) ∧ w'.cell? ⟨p, 5, none⟩ = some (.int .i64 id) ∧ w'.cell? ⟨p, 6, none⟩ = some (.int .i64 label) ∧ w'.cell? ⟨p, 7, none⟩ = some (.int .i64 key)) (go_keep) (first | (go_at_call 15; refine (zAa HPI _ _ _ (by omega)).mono ?_; rintro _ _ ⟨rfl, rfl⟩))
  all_goals
   go_wp2_with fail
   go_meet
   rw [IntWalk.i64_in (1 + count % 9) (by omega), IntWalk.i64_in (1 + life % 5) (by omega), IntWalk.i64_in (1 + id % 5) (by omega)]
   exact ⟨_, rfl, hide (yEe (⟨1, who % 4, item % 2, 1 + count % 9, 1 + life % 5, 1 + id % 5, label % 3, key % 4⟩ : StpI) (zAa HBX) (zAa HKP) (zAa HKQ))⟩
 case rest =>
  obtain ⟨b, rfl, HC⟩ := hcut
  obtain ⟨hB, hP, hZ, hne, hbl, hW⟩ := zAa HC
  have HB := hide hB
  have HZ := hide hZ
  have HNE := hide hne
  have HBL := hide hbl
  have HW := hide hW
  have p0 : wc.cell? ⟨p, 0, none⟩ = some (.int .i64 kind) := hP.cell 0
  have p5 : wc.cell? ⟨p, 5, none⟩ = some (.int .i64 id) := hP.cell 5
  obtain ⟨K, hK⟩ : ∃ K, K = kind % 24 := ⟨_, rfl⟩
  have hK24 : 0 ≤ K ∧ K < 24 := by omega
  have HPK := hide (show Calls Tryz.prog 15 #[.int .i64 kind, .int .i64 24] wc fun e w' => e = .returned (.int .i64 K) ∧ wc = w' by rw [hK]; exact zDo kind 24 wc (by omega))
  have HK := hide hK
  clear hB hP hZ hne hbl hW HC hK s0 s1 s2 s3 s4 s5 s6 s7
  go_wp2_with fail
  refine (zAa HPK).mono ?_
  rintro _ _ ⟨rfl, rfl⟩
  by_cases h2 : K < 2
  ·have d2 : decide (K < 2) = true := by simpa using h2
   have HE := hide (show zDb ⟨kind, who, item, count, life, id, label, key⟩ ahead = (⟨1, who % 4, item % 2, 1 + count % 9, 1 + life % 5, 1 + id % 5, label % 3, key % 4⟩ : StpI) by unfold zDb; dsimp only; rw [← zAa HK]; rw [if_pos (by omega)])
   obtain ⟨g0, g1, g2, g3, g4, g5, g6, g7⟩ := zAs (zAa HB)
   obtain ⟨z0, z1, z2, z3, z4, z5, z6, z7⟩ := zAs (zAa HZ)
   obtain ⟨f0, f1, f2, f3, f4, f5, f6, f7⟩ := zDq (zAa HZ)
   go_wp2_with fail
   change bodyPost _ _ _ _ _ (wrS wc q (⟨1, who % 4, item % 2, 1 + count % 9, 1 + life % 5, 1 + id % 5, label % 3, key % 4⟩ : StpI))
   have k9 := zFn (zAa HZ) rfl (⟨1, who % 4, item % 2, 1 + count % 9, 1 + life % 5, 1 + id % 5, label % 3, key % 4⟩ : StpI)
   have HO9 := hide (zEo wc q (⟨1, who % 4, item % 2, 1 + count % 9, 1 + life % 5, 1 + id % 5, label % 3, key % 4⟩ : StpI))
   clear g0 g1 g2 g3 g4 g5 g6 g7 z0 z1 z2 z3 z4 z5 z6 z7 f0 f1 f2 f3 f4 f5 f6 f7
   generalize wrS wc q (⟨1, who % 4, item % 2, 1 + count % 9, 1 + life % 5, 1 + id % 5, label % 3, key % 4⟩ : StpI) = w9 at k9 HO9 ⊢
   obtain ⟨d0, d1, d2, d3, d4, d5, d6, d7⟩ := zAs k9
   refine bodyPost_ret (v := ((⟨1, who % 4, item % 2, 1 + count % 9, 1 + life % 5, 1 + id % 5, label % 3, key % 4⟩ : StpI)).val) (by simp [results, Tryz.results32, go_sem, d0, d1, d2, d3, d4, d5, d6, d7, StpI.val]) rfl ⟨by rw [zAa HE]; first | done | rfl, (zAa HW).trans ((zAa HO9).to_below (fun x hx _ e => by have := zAa HQ; omega) (zAa HW).size)⟩
  have d2 : decide (K < 2) = false := by simpa using h2
  by_cases h8 : K < 8
  ·have d8 : decide (K < 8) = true := by simpa using h8
   have hK1 : 0 ≤ K ∧ K ≤ 100 := by omega
   by_cases hk2 : K = 2
   ·have e2 : (K == 2) = true := by simpa using hk2
    have HE := hide (show zDb ⟨kind, who, item, count, life, id, label, key⟩ ahead = (⟨2, who % 4, item % 2, 1 + count % 9, 1 + life % 5, 1 + id % 5, label % 3, key % 4⟩ : StpI) by unfold zDb; dsimp only; rw [← zAa HK]; rw [if_neg (by omega)]; rw [if_pos (by omega)]; rw [if_pos hk2])
    have hk2' : 2 + K - 3 = 1 := by omega
    subst hk2
    obtain ⟨y0, y1, y2, y3, y4, y5, y6, y7⟩ := zDq (zAa HB)
    obtain ⟨x0, x1, x2, x3, x4, x5, x6, x7⟩ := zAs (zAa HB)
    have hb2 := (zAa HB).set_ 0 (.int .i64 (1 : Int))
    have HB2 := hide (show Blk ((wc.setCell ⟨b, 0, none⟩ (.int .i64 (1 : Int))).setCell ⟨b, 0, none⟩ (.int .i64 (2 : Int))) b 48 (⟨2, who % 4, item % 2, 1 + count % 9, 1 + life % 5, 1 + id % 5, label % 3, key % 4⟩ : StpI).cells.toArray from hb2.set_ 0 _)
    have ho2 : Only (fun k => k = b) wc ((wc.setCell ⟨b, 0, none⟩ (.int .i64 (1 : Int))).setCell ⟨b, 0, none⟩ (.int .i64 (2 : Int))) := zAg (zAg (Only.refl _ wc) 0 _) 0 _
    have HZ2 := hide ((zAa HZ).only ho2 (fun e => zAa HNE e.symm))
    have HW2 := hide ((zAa HW).trans (ho2.to_below (fun x hx _ e => by have := zAa HBL; omega) (zAa HW).size))
    have y20 := hb2.frozen 0
    have x20 := hb2.cell 0
    clear ho2 hb2
    go_upto_region 17 with fail
    clear x0 x1 x2 x3 x4 x5 x6 x7 y0 y1 y2 y3 y4 y5 y6 y7 y20 x20
    generalize (wc.setCell ⟨b, 0, none⟩ (.int .i64 (1 : Int))).setCell ⟨b, 0, none⟩ (.int .i64 (2 : Int)) = wz at HB2 HZ2 HW2 ⊢
    obtain ⟨g0, g1, g2, g3, g4, g5, g6, g7⟩ := zAs (zAa HB2)
    obtain ⟨z0, z1, z2, z3, z4, z5, z6, z7⟩ := zAs (zAa HZ2)
    obtain ⟨f0, f1, f2, f3, f4, f5, f6, f7⟩ := zDq (zAa HZ2)
    go_wp2_with fail
    change bodyPost _ _ _ _ _ (wrS wz q (⟨2, who % 4, item % 2, 1 + count % 9, 1 + life % 5, 1 + id % 5, label % 3, key % 4⟩ : StpI))
    have k9 := zFn (zAa HZ2) rfl (⟨2, who % 4, item % 2, 1 + count % 9, 1 + life % 5, 1 + id % 5, label % 3, key % 4⟩ : StpI)
    have HO9 := hide (zEo wz q (⟨2, who % 4, item % 2, 1 + count % 9, 1 + life % 5, 1 + id % 5, label % 3, key % 4⟩ : StpI))
    clear g0 g1 g2 g3 g4 g5 g6 g7 z0 z1 z2 z3 z4 z5 z6 z7 f0 f1 f2 f3 f4 f5 f6 f7
    generalize wrS wz q (⟨2, who % 4, item % 2, 1 + count % 9, 1 + life % 5, 1 + id % 5, label % 3, key % 4⟩ : StpI) = w9 at k9 HO9 ⊢
    obtain ⟨d0, d1, d2, d3, d4, d5, d6, d7⟩ := zAs k9
    refine bodyPost_ret (v := ((⟨2, who % 4, item % 2, 1 + count % 9, 1 + life % 5, 1 + id % 5, label % 3, key % 4⟩ : StpI)).val) (by simp [results, Tryz.results32, go_sem, d0, d1, d2, d3, d4, d5, d6, d7, StpI.val]) rfl ⟨by rw [zAa HE]; first | done | rfl, (zAa HW2).trans ((zAa HO9).to_below (fun x hx _ e => by have := zAa HQ; omega) (zAa HW2).size)⟩
   ·have e2 : (K == 2) = false := by simpa using hk2
    obtain ⟨J, hJ⟩ : ∃ J, J = K - 1 := ⟨_, rfl⟩
    have hJ2 : 2 + K - 3 = J := by omega
    have HE := hide (show zDb ⟨kind, who, item, count, life, id, label, key⟩ ahead = (⟨J, who % 4, item % 2, 1 + count % 9, 1 + life % 5, 1 + id % 5, label % 3, key % 4⟩ : StpI) by unfold zDb; dsimp only; rw [← zAa HK]; rw [if_neg (by omega)]; rw [if_pos (by omega)]; rw [if_neg hk2, hJ])
    have hK2J : K = J + 1 := by omega
    subst hK2J
    have hj3 : 2 + (J + 1) - 3 = J := by omega
    clear hJ hJ2
    obtain ⟨y0, y1, y2, y3, y4, y5, y6, y7⟩ := zDq (zAa HB)
    obtain ⟨x0, x1, x2, x3, x4, x5, x6, x7⟩ := zAs (zAa HB)
    have HB2 := hide (show Blk (wc.setCell ⟨b, 0, none⟩ (.int .i64 J)) b 48 (⟨J, who % 4, item % 2, 1 + count % 9, 1 + life % 5, 1 + id % 5, label % 3, key % 4⟩ : StpI).cells.toArray from (zAa HB).set_ 0 _)
    have ho2 : Only (fun k => k = b) wc (wc.setCell ⟨b, 0, none⟩ (.int .i64 J)) := zAg (Only.refl _ wc) 0 _
    have HZ2 := hide ((zAa HZ).only ho2 (fun e => zAa HNE e.symm))
    have HW2 := hide ((zAa HW).trans (ho2.to_below (fun x hx _ e => by have := zAa HBL; omega) (zAa HW).size))
    clear ho2
    go_upto_region 17 with fail
    clear x0 x1 x2 x3 x4 x5 x6 x7 y0 y1 y2 y3 y4 y5 y6 y7
    generalize wc.setCell ⟨b, 0, none⟩ (.int .i64 J) = wz at HB2 HZ2 HW2 ⊢
    obtain ⟨g0, g1, g2, g3, g4, g5, g6, g7⟩ := zAs (zAa HB2)
    obtain ⟨z0, z1, z2, z3, z4, z5, z6, z7⟩ := zAs (zAa HZ2)
    obtain ⟨f0, f1, f2, f3, f4, f5, f6, f7⟩ := zDq (zAa HZ2)
    go_wp2_with fail
    change bodyPost _ _ _ _ _ (wrS wz q (⟨J, who % 4, item % 2, 1 + count % 9, 1 + life % 5, 1 + id % 5, label % 3, key % 4⟩ : StpI))
    have k9 := zFn (zAa HZ2) rfl (⟨J, who % 4, item % 2, 1 + count % 9, 1 + life % 5, 1 + id % 5, label % 3, key % 4⟩ : StpI)
    have HO9 := hide (zEo wz q (⟨J, who % 4, item % 2, 1 + count % 9, 1 + life % 5, 1 + id % 5, label % 3, key % 4⟩ : StpI))
    clear g0 g1 g2 g3 g4 g5 g6 g7 z0 z1 z2 z3 z4 z5 z6 z7 f0 f1 f2 f3 f4 f5 f6 f7
    generalize wrS wz q (⟨J, who % 4, item % 2, 1 + count % 9, 1 + life % 5, 1 + id % 5, label % 3, key % 4⟩ : StpI) = w9 at k9 HO9 ⊢
    obtain ⟨d0, d1, d2, d3, d4, d5, d6, d7⟩ := zAs k9
    refine bodyPost_ret (v := ((⟨J, who % 4, item % 2, 1 + count % 9, 1 + life % 5, 1 + id % 5, label % 3, key % 4⟩ : StpI)).val) (by simp [results, Tryz.results32, go_sem, d0, d1, d2, d3, d4, d5, d6, d7, StpI.val]) rfl ⟨by rw [zAa HE]; first | done | rfl, (zAa HW2).trans ((zAa HO9).to_below (fun x hx _ e => by have := zAa HQ; omega) (zAa HW2).size)⟩
  have d8 : decide (K < 8) = false := by simpa using h8
  by_cases h10 : K < 10
  ·have d10 : decide (K < 10) = true := by simpa using h10
   have HE := hide (show zDb ⟨kind, who, item, count, life, id, label, key⟩ ahead = (⟨7, who % 4, item % 2, 1 + count % 9, 1 + life % 5, 1 + id % 5, label % 3, key % 4⟩ : StpI) by unfold zDb; dsimp only; rw [← zAa HK]; rw [if_neg (by omega)]; rw [if_neg (by omega)]; rw [if_pos (by omega)])
   obtain ⟨y0, y1, y2, y3, y4, y5, y6, y7⟩ := zDq (zAa HB)
   obtain ⟨x0, x1, x2, x3, x4, x5, x6, x7⟩ := zAs (zAa HB)
   have HB2 := hide (show Blk (wc.setCell ⟨b, 0, none⟩ (.int .i64 (7 : Int))) b 48 (⟨7, who % 4, item % 2, 1 + count % 9, 1 + life % 5, 1 + id % 5, label % 3, key % 4⟩ : StpI).cells.toArray from (zAa HB).set_ 0 _)
   have ho2 : Only (fun k => k = b) wc (wc.setCell ⟨b, 0, none⟩ (.int .i64 (7 : Int))) := zAg (Only.refl _ wc) 0 _
   have HZ2 := hide ((zAa HZ).only ho2 (fun e => zAa HNE e.symm))
   have HW2 := hide ((zAa HW).trans (ho2.to_below (fun x hx _ e => by have := zAa HBL; omega) (zAa HW).size))
   clear ho2
   go_upto_region 17 with fail
   clear x0 x1 x2 x3 x4 x5 x6 x7 y0 y1 y2 y3 y4 y5 y6 y7
   generalize wc.setCell ⟨b, 0, none⟩ (.int .i64 (7 : Int)) = wz at HB2 HZ2 HW2 ⊢
   obtain ⟨g0, g1, g2, g3, g4, g5, g6, g7⟩ := zAs (zAa HB2)
   obtain ⟨z0, z1, z2, z3, z4, z5, z6, z7⟩ := zAs (zAa HZ2)
   obtain ⟨f0, f1, f2, f3, f4, f5, f6, f7⟩ := zDq (zAa HZ2)
   go_wp2_with fail
   change bodyPost _ _ _ _ _ (wrS wz q (⟨7, who % 4, item % 2, 1 + count % 9, 1 + life % 5, 1 + id % 5, label % 3, key % 4⟩ : StpI))
   have k9 := zFn (zAa HZ2) rfl (⟨7, who % 4, item % 2, 1 + count % 9, 1 + life % 5, 1 + id % 5, label % 3, key % 4⟩ : StpI)
   have HO9 := hide (zEo wz q (⟨7, who % 4, item % 2, 1 + count % 9, 1 + life % 5, 1 + id % 5, label % 3, key % 4⟩ : StpI))
   clear g0 g1 g2 g3 g4 g5 g6 g7 z0 z1 z2 z3 z4 z5 z6 z7 f0 f1 f2 f3 f4 f5 f6 f7
   generalize wrS wz q (⟨7, who % 4, item % 2, 1 + count % 9, 1 + life % 5, 1 + id % 5, label % 3, key % 4⟩ : StpI) = w9 at k9 HO9 ⊢
   obtain ⟨d0, d1, d2, d3, d4, d5, d6, d7⟩ := zAs k9
   refine bodyPost_ret (v := ((⟨7, who % 4, item % 2, 1 + count % 9, 1 + life % 5, 1 + id % 5, label % 3, key % 4⟩ : StpI)).val) (by simp [results, Tryz.results32, go_sem, d0, d1, d2, d3, d4, d5, d6, d7, StpI.val]) rfl ⟨by rw [zAa HE]; first | done | rfl, (zAa HW2).trans ((zAa HO9).to_below (fun x hx _ e => by have := zAa HQ; omega) (zAa HW2).size)⟩
  have d10 : decide (K < 10) = false := by simpa using h10
  by_cases h11 : K = 10
  ·have e10 : (K == 10) = true := by simpa using h11
   have HE := hide (show zDb ⟨kind, who, item, count, life, id, label, key⟩ ahead = (⟨8, who % 4, item % 2, 1 + count % 9, 1 + life % 5, 1 + id % 5, label % 3, key % 4⟩ : StpI) by unfold zDb; dsimp only; rw [← zAa HK]; rw [if_neg (by omega)]; rw [if_neg (by omega)]; rw [if_neg (by omega)]; rw [if_pos (by omega)])
   have HKE := hide h11
   clear h11
   obtain ⟨y0, y1, y2, y3, y4, y5, y6, y7⟩ := zDq (zAa HB)
   obtain ⟨x0, x1, x2, x3, x4, x5, x6, x7⟩ := zAs (zAa HB)
   have HB2 := hide (show Blk (wc.setCell ⟨b, 0, none⟩ (.int .i64 (8 : Int))) b 48 (⟨8, who % 4, item % 2, 1 + count % 9, 1 + life % 5, 1 + id % 5, label % 3, key % 4⟩ : StpI).cells.toArray from (zAa HB).set_ 0 _)
   have ho2 : Only (fun k => k = b) wc (wc.setCell ⟨b, 0, none⟩ (.int .i64 (8 : Int))) := zAg (Only.refl _ wc) 0 _
   have HZ2 := hide ((zAa HZ).only ho2 (fun e => zAa HNE e.symm))
   have HW2 := hide ((zAa HW).trans (ho2.to_below (fun x hx _ e => by have := zAa HBL; omega) (zAa HW).size))
   clear ho2
   go_upto_region 17 with fail
   clear x0 x1 x2 x3 x4 x5 x6 x7 y0 y1 y2 y3 y4 y5 y6 y7
   generalize wc.setCell ⟨b, 0, none⟩ (.int .i64 (8 : Int)) = wz at HB2 HZ2 HW2 ⊢
   obtain ⟨g0, g1, g2, g3, g4, g5, g6, g7⟩ := zAs (zAa HB2)
   obtain ⟨z0, z1, z2, z3, z4, z5, z6, z7⟩ := zAs (zAa HZ2)
   obtain ⟨f0, f1, f2, f3, f4, f5, f6, f7⟩ := zDq (zAa HZ2)
   go_wp2_with fail
   change bodyPost _ _ _ _ _ (wrS wz q (⟨8, who % 4, item % 2, 1 + count % 9, 1 + life % 5, 1 + id % 5, label % 3, key % 4⟩ : StpI))
   have k9 := zFn (zAa HZ2) rfl (⟨8, who % 4, item % 2, 1 + count % 9, 1 + life % 5, 1 + id % 5, label % 3, key % 4⟩ : StpI)
   have HO9 := hide (zEo wz q (⟨8, who % 4, item % 2, 1 + count % 9, 1 + life % 5, 1 + id % 5, label % 3, key % 4⟩ : StpI))
   clear g0 g1 g2 g3 g4 g5 g6 g7 z0 z1 z2 z3 z4 z5 z6 z7 f0 f1 f2 f3 f4 f5 f6 f7
   generalize wrS wz q (⟨8, who % 4, item % 2, 1 + count % 9, 1 + life % 5, 1 + id % 5, label % 3, key % 4⟩ : StpI) = w9 at k9 HO9 ⊢
   obtain ⟨d0, d1, d2, d3, d4, d5, d6, d7⟩ := zAs k9
   refine bodyPost_ret (v := ((⟨8, who % 4, item % 2, 1 + count % 9, 1 + life % 5, 1 + id % 5, label % 3, key % 4⟩ : StpI)).val) (by simp [results, Tryz.results32, go_sem, d0, d1, d2, d3, d4, d5, d6, d7, StpI.val]) rfl ⟨by rw [zAa HE]; first | done | rfl, (zAa HW2).trans ((zAa HO9).to_below (fun x hx _ e => by have := zAa HQ; omega) (zAa HW2).size)⟩
  have e10 : (K == 10) = false := by simpa using h11
  by_cases h13 : K < 13
  ·have d13 : decide (K < 13) = true := by simpa using h13
   have HE := hide (show zDb ⟨kind, who, item, count, life, id, label, key⟩ ahead = zEv by unfold zDb; dsimp only; rw [← zAa HK]; rw [if_neg (by omega)]; rw [if_neg (by omega)]; rw [if_neg (by omega)]; rw [if_neg (by omega)]; rw [if_pos (by omega)])
   obtain ⟨y0, y1, y2, y3, y4, y5, y6, y7⟩ := zDq (zAa HB)
   obtain ⟨x0, x1, x2, x3, x4, x5, x6, x7⟩ := zAs (zAa HB)
   have HB2 := hide (zFn (zAa HB) rfl zEv)
   have ho2 := zEo wc b zEv
   have HZ2 := hide ((zAa HZ).only ho2 (fun e => zAa HNE e.symm))
   have HW2 := hide ((zAa HW).trans (ho2.to_below (fun x hx _ e => by have := zAa HBL; omega) (zAa HW).size))
   clear ho2
   go_upto_region 17 with fail
   change Code.wp _ _ _ _ (wrS wc b zEv)
   clear x0 x1 x2 x3 x4 x5 x6 x7 y0 y1 y2 y3 y4 y5 y6 y7
   generalize wrS wc b zEv = wz at HB2 HZ2 HW2 ⊢
   obtain ⟨g0, g1, g2, g3, g4, g5, g6, g7⟩ := zAs (zAa HB2)
   obtain ⟨z0, z1, z2, z3, z4, z5, z6, z7⟩ := zAs (zAa HZ2)
   obtain ⟨f0, f1, f2, f3, f4, f5, f6, f7⟩ := zDq (zAa HZ2)
   go_wp2_with fail
   change bodyPost _ _ _ _ _ (wrS wz q zEv)
   have k9 := zFn (zAa HZ2) rfl zEv
   have HO9 := hide (zEo wz q zEv)
   clear g0 g1 g2 g3 g4 g5 g6 g7 z0 z1 z2 z3 z4 z5 z6 z7 f0 f1 f2 f3 f4 f5 f6 f7
   generalize wrS wz q zEv = w9 at k9 HO9 ⊢
   obtain ⟨d0, d1, d2, d3, d4, d5, d6, d7⟩ := zAs k9
   refine bodyPost_ret (v := (zEv).val) (by simp [results, Tryz.results32, go_sem, d0, d1, d2, d3, d4, d5, d6, d7, StpI.val]) rfl ⟨by rw [zAa HE]; first | done | rfl, (zAa HW2).trans ((zAa HO9).to_below (fun x hx _ e => by have := zAa HQ; omega) (zAa HW2).size)⟩
  have d13 : decide (K < 13) = false := by simpa using h13
  by_cases h14 : K < 14
  ·have d14 : decide (K < 14) = true := by simpa using h14
   obtain ⟨I, hI⟩ : ∃ I, I = id % (ahead + 1) := ⟨_, rfl⟩
   have HPI2 := hide (show Calls Tryz.prog 15 #[.int .i64 id, .int .i64 (ahead + 1)] wc fun e w' => e = .returned (.int .i64 I) ∧ wc = w' by rw [hI]; exact zDo id (ahead + 1) wc (by omega))
   have HE := hide (show zDb ⟨kind, who, item, count, life, id, label, key⟩ ahead = (⟨11, 0, 0, 0, 0, I, 0, 0⟩ : StpI) by unfold zDb; dsimp only; rw [← zAa HK]; rw [if_neg (by omega)]; rw [if_neg (by omega)]; rw [if_neg (by omega)]; rw [if_neg (by omega)]; rw [if_neg (by omega)]; rw [if_pos (by omega)]; rw [hI])
   clear hI
   go_wp2_with fail
   refine (zAa HPI2).mono ?_
   rintro _ _ ⟨rfl, rfl⟩
   obtain ⟨y0, y1, y2, y3, y4, y5, y6, y7⟩ := zDq (zAa HB)
   obtain ⟨x0, x1, x2, x3, x4, x5, x6, x7⟩ := zAs (zAa HB)
   have HB2 := hide (zFn (zAa HB) rfl (⟨11, 0, 0, 0, 0, I, 0, 0⟩ : StpI))
   have ho2 := zEo wc b (⟨11, 0, 0, 0, 0, I, 0, 0⟩ : StpI)
   have HZ2 := hide ((zAa HZ).only ho2 (fun e => zAa HNE e.symm))
   have HW2 := hide ((zAa HW).trans (ho2.to_below (fun x hx _ e => by have := zAa HBL; omega) (zAa HW).size))
   clear ho2
   go_upto_region 17 with fail
   change Code.wp _ _ _ _ (wrS wc b (⟨11, 0, 0, 0, 0, I, 0, 0⟩ : StpI))
   clear x0 x1 x2 x3 x4 x5 x6 x7 y0 y1 y2 y3 y4 y5 y6 y7
   generalize wrS wc b (⟨11, 0, 0, 0, 0, I, 0, 0⟩ : StpI) = wz at HB2 HZ2 HW2 ⊢
   obtain ⟨g0, g1, g2, g3, g4, g5, g6, g7⟩ := zAs (zAa HB2)
   obtain ⟨z0, z1, z2, z3, z4, z5, z6, z7⟩ := zAs (zAa HZ2)
   obtain ⟨f0, f1, f2, f3, f4, f5, f6, f7⟩ := zDq (zAa HZ2)
   go_wp2_with fail
   change bodyPost _ _ _ _ _ (wrS wz q (⟨11, 0, 0, 0, 0, I, 0, 0⟩ : StpI))
   have k9 := zFn (zAa HZ2) rfl (⟨11, 0, 0, 0, 0, I, 0, 0⟩ : StpI)
   have HO9 := hide (zEo wz q (⟨11, 0, 0, 0, 0, I, 0, 0⟩ : StpI))
   clear g0 g1 g2 g3 g4 g5 g6 g7 z0 z1 z2 z3 z4 z5 z6 z7 f0 f1 f2 f3 f4 f5 f6 f7
   generalize wrS wz q (⟨11, 0, 0, 0, 0, I, 0, 0⟩ : StpI) = w9 at k9 HO9 ⊢
   obtain ⟨d0, d1, d2, d3, d4, d5, d6, d7⟩ := zAs k9
   refine bodyPost_ret (v := ((⟨11, 0, 0, 0, 0, I, 0, 0⟩ : StpI)).val) (by simp [results, Tryz.results32, go_sem, d0, d1, d2, d3, d4, d5, d6, d7, StpI.val]) rfl ⟨by rw [zAa HE]; first | done | rfl, (zAa HW2).trans ((zAa HO9).to_below (fun x hx _ e => by have := zAa HQ; omega) (zAa HW2).size)⟩
  ·have d14 : decide (K < 14) = false := by simpa using h14
   have d13 : decide (K < 13) = false := by simpa using h13
   obtain ⟨I, hI⟩ : ∃ I, I = id % (ahead + 1) := ⟨_, rfl⟩
   have HPI2 := hide (show Calls Tryz.prog 15 #[.int .i64 id, .int .i64 (ahead + 1)] wc fun e w' => e = .returned (.int .i64 I) ∧ wc = w' by rw [hI]; exact zDo id (ahead + 1) wc (by omega))
   have HE := hide (show zDb ⟨kind, who, item, count, life, id, label, key⟩ ahead = (zFu I) by unfold zDb; dsimp only; rw [← zAa HK]; rw [if_neg (by omega)]; rw [if_neg (by omega)]; rw [if_neg (by omega)]; rw [if_neg (by omega)]; rw [if_neg (by omega)]; rw [if_neg (by omega)]; rw [hI])
   clear hI
   go_wp2_with fail
   refine (zAa HPI2).mono ?_
   rintro _ _ ⟨rfl, rfl⟩
   obtain ⟨y0, y1, y2, y3, y4, y5, y6, y7⟩ := zDq (zAa HB)
   obtain ⟨x0, x1, x2, x3, x4, x5, x6, x7⟩ := zAs (zAa HB)
   have HB2 := hide (zFn (zAa HB) rfl (zFu I))
   have ho2 := zEo wc b (zFu I)
   have HZ2 := hide ((zAa HZ).only ho2 (fun e => zAa HNE e.symm))
   have HW2 := hide ((zAa HW).trans (ho2.to_below (fun x hx _ e => by have := zAa HBL; omega) (zAa HW).size))
   clear ho2
   go_upto_region 17 with fail
   change Code.wp _ _ _ _ (wrS wc b (zFu I))
   clear x0 x1 x2 x3 x4 x5 x6 x7 y0 y1 y2 y3 y4 y5 y6 y7
   generalize wrS wc b (zFu I) = wz at HB2 HZ2 HW2 ⊢
   obtain ⟨g0, g1, g2, g3, g4, g5, g6, g7⟩ := zAs (zAa HB2)
   obtain ⟨z0, z1, z2, z3, z4, z5, z6, z7⟩ := zAs (zAa HZ2)
   obtain ⟨f0, f1, f2, f3, f4, f5, f6, f7⟩ := zDq (zAa HZ2)
   go_wp2_with fail
   change bodyPost _ _ _ _ _ (wrS wz q (zFu I))
   have k9 := zFn (zAa HZ2) rfl (zFu I)
   have HO9 := hide (zEo wz q (zFu I))
   clear g0 g1 g2 g3 g4 g5 g6 g7 z0 z1 z2 z3 z4 z5 z6 z7 f0 f1 f2 f3 f4 f5 f6 f7
   generalize wrS wz q (zFu I) = w9 at k9 HO9 ⊢
   obtain ⟨d0, d1, d2, d3, d4, d5, d6, d7⟩ := zAs k9
   refine bodyPost_ret (v := ((zFu I)).val) (by simp [results, Tryz.results32, go_sem, d0, d1, d2, d3, d4, d5, d6, d7, StpI.val]) rfl ⟨by rw [zAa HE]; first | done | rfl, (zAa HW2).trans ((zAa HO9).to_below (fun x hx _ e => by have := zAa HQ; omega) (zAa HW2).size)⟩
end
section
open Go.RowKit
def zCk (ds : List StpI) : Nat → List StpI
 | 0 => []
 | k + 1 => zCk ds k ++ [zDb (ds.getD k stpZero) (zDr (zCk ds k))]
def zJs (ds : List StpI) (n : Nat) : List StpI := zCk ds (min n ds.length)
theorem zFh (ds : List StpI) : ∀ k, (zCk ds k).length = k
 | 0 => rfl
 | k + 1 => by rw [zCk, List.length_append, zFh ds k]; rfl
set_option maxRecDepth 100000 in
set_option maxHeartbeats 2000000 in
theorem zXd (A : Option Addr) (n cc m : Nat) (ds : List StpI) (B : Nat) (w : World) (hl : ds.length = n) (hm : n ≤ maxLen) (hm2 : m ≤ 1000) (hr : Reads w B 8 A n (ds.flatMap StpI.cells)) (hB : B ≤ w.heap.size) :
    Calls Tryz.prog 16 #[.slice A n cc, .int .i64 m] w fun e w' => ∃ v, e = .returned v ∧ zFp w' w.heap.size v (zJs ds m) ∧ Below w.heap.size w w' := by
 obtain ⟨it, hit, ht0, ht1, ht2⟩ := zKb
 have HR := hide hr
 have HL := hide hl
 have HB := hide hB
 have HS0 := hide (show zFp w w.heap.size (.slice none 0 0) (zCk ds 0) from World.ownsRow_nil _ _ _ _)
 unfold maxLen at hm
 clear hr hl hB
 go_enter Tryz.func16, Tryz.ntmps16
 go_wp2_with fail
 go_loopw [5, 6, 7] (fun v a i wr => ∃ k : Nat, k ≤ m ∧ k ≤ n ∧ i = .int .i64 k ∧ a = .int .i64 (zDr (zCk ds k)) ∧ Hid (zFp wr w.heap.size v (zCk ds k)) ∧ Hid (Below w.heap.size w wr)) (fun _ _ i _ => m - (intOf i).toNat)
 case atStart => exact ⟨0, Nat.zero_le _, Nat.zero_le _, rfl, rfl, HS0, hide (Below.refl _ _)⟩
 case round =>
  obtain ⟨k, hkm, hkn, rfl, rfl, HS, HBE⟩ := hrel
  by_cases hn : k < n
  ·by_cases hmm : k < m
   ·have d1 : decide ((k : Int) < (n : Int)) = true := by simp; omega
    have d2 : decide ((k : Int) < (m : Int)) = true := by simp; omega
    have hin : (k : Int) < (n : Int) := by omega
    obtain ⟨bt, ot, s, rfl, hbt, hs, hct⟩ := zCf StpI.cells_len (by omega) ((zAa HR).below ((zAa HBE).mono (zAa HB))) hn (zAa HL)
    have z0 : wr.cell? ⟨bt, ot + k * 8, none⟩ = some (.int .i64 s.kind) := hct 0 _ rfl
    have z1 : wr.cell? ⟨bt, ot + k * 8 + 1, none⟩ = some (.int .i64 s.who) := hct 1 _ rfl
    have z2 : wr.cell? ⟨bt, ot + k * 8 + 2, none⟩ = some (.int .i64 s.item) := hct 2 _ rfl
    have z3 : wr.cell? ⟨bt, ot + k * 8 + 3, none⟩ = some (.int .i64 s.count) := hct 3 _ rfl
    have z4 : wr.cell? ⟨bt, ot + k * 8 + 4, none⟩ = some (.int .i64 s.life) := hct 4 _ rfl
    have z5 : wr.cell? ⟨bt, ot + k * 8 + 5, none⟩ = some (.int .i64 s.id) := hct 5 _ rfl
    have z6 : wr.cell? ⟨bt, ot + k * 8 + 6, none⟩ = some (.int .i64 s.label) := hct 6 _ rfl
    have z7 : wr.cell? ⟨bt, ot + k * 8 + 7, none⟩ = some (.int .i64 s.key) := hct 7 _ rfl
    have hfl := zLt (zCk ds k)
    rw [zFh] at hfl
    obtain ⟨f, hf⟩ : ∃ f, f = zDr (zCk ds k) := ⟨_, rfl⟩
    rw [← hf] at hfl ⊢
    have hfb : f ≤ 20000 := by omega
    have hdk : ds.getD k stpZero = s := by rw [List.getD_eq_getElem?_getD, hs]; rfl
    obtain ⟨t, ht⟩ : ∃ t, t = zDb s f := ⟨_, rfl⟩
    have hst : zCk ds (k + 1) = zCk ds k ++ [t] := by rw [zCk, hdk, ← hf, ht]
    have hff : zDr (zCk ds (k + 1)) = f + (if t.kind = 9 then 20 else 0) := by rw [hst, zLd, ← hf]; simp [zDr]
    have HSO := hide (show Calls Tryz.prog 32 #[s.val, .int .i64 f] wr fun e w' => e = .returned t.val ∧ Below wr.heap.size wr w' by rw [ht]; exact yAy s f wr (by omega))
    unfold StpI.val at HSO
    obtain ⟨A5, c5, hv5, _⟩ := zAf (zAa HS)
    subst hv5
    have hown5 := zAa HS
    unfold zFp at hown5
    rw [zFh] at hown5 ⊢
    have HW5 := hide hown5
    have HST := hide hst
    have HFF := hide hff
    have HMQ5 := hide (show (k + 1) * 64 ≤ 140737488355328 by omega)
    clear hf hfl hdk ht hst hff hown5 hs hct hbt
    go_wp2_with fail
    refine (zAa HSO).mono ?_
    rintro _ w4 ⟨rfl, hb4⟩
    obtain ⟨w5, hw5⟩ : ∃ w5, w5 = w4.alloc (.cells #[.int .i64 t.kind, .int .i64 t.who, .int .i64 t.item, .int .i64 t.count, .int .i64 t.life, .int .i64 t.id, .int .i64 t.label, .int .i64 t.key] 48) := ⟨_, rfl⟩
    obtain ⟨b, hb⟩ : ∃ b, b = w4.heap.size := ⟨_, rfl⟩
    have hb5 : Below w4.heap.size w4 w5 := by rw [hw5]; exact (Below.refl _ _).alloc (Nat.le_refl _) _
    have k5 : Blk w5 b 48 t.cells.toArray := by rw [hw5, hb]; exact Blk.new _ _ _
    have hbb : Below wr.heap.size wr w5 := hb4.trans (hb5.mono hb4.size)
    have HBB := hide ((zAa HBE).trans (hbb.mono (zAa HBE).size))
    have HOW := hide (zAi (zAa HW5) hbb)
    have HW := hide hw5
    have HBK := hide hb
    obtain ⟨x0, x1, x2, x3, x4, x5, x6, x7⟩ := zAs k5
    have hsz5 : w.heap.size ≤ w5.heap.size := (zAa HBB).size
    clear z0 z1 z2 z3 z4 z5 z6 z7 hw5 hb hb4 hb5 k5 hbb HSO
    go_upto_region 7 with fail
    rw [← zAa HW, ← zAa HBK]
    by_cases h9 : t.kind = 9
    ·have h9b : (t.kind == 9) = true := by simpa using h9
     have HFE := hide (show zDr (zCk ds (k + 1)) = f + 20 by rw [zAa HFF, if_pos h9])
     clear h9
     go_wp2_with (first
      | (at_builtin; (refine zAl w5 rfl (.tmp 31) (.tmp 33) _ rfl w.heap.size 48 it _ 8 64 Tryz.underlying25 hit ht0 ht1 ht2 rfl (by omega) (by omega) _ k _ (zAa HOW) rfl _ 1 _ rfl rfl rfl (by simp [Value.oneCell']) (zAa HMQ5) hsz5 ?_); intro g4 cap4 w6 hg4 hown4 hbel4 hgr4 hat4
         have HB6 := hide (hbel4 w.heap.size w (Nat.le_refl _) (zAa HBB))
         have HS6 := hide (show zFp w6 w.heap.size (.slice (some ⟨g4, 0, none⟩) (k + 1) cap4) (zCk ds (k + 1)) by
          unfold zFp
          rw [zFh, zAa HST, List.flatMap_append]
          simpa [StpI.cells] using hown4)
         clear hg4 hown4 hbel4 hgr4 hat4 hsz5))
     go_roundw
     case rel => exact ⟨k + 1, by omega, by omega, by go_num, by rw [zAa HFE]; go_num, HS6, HB6⟩
     case measure => simp [intOf]; omega
    ·have h9b : (t.kind == 9) = false := by simpa using h9
     have HFE := hide (show zDr (zCk ds (k + 1)) = f by rw [zAa HFF, if_neg h9]; rfl)
     clear h9
     go_wp2_with (first
      | (at_builtin; (refine zAl w5 rfl (.tmp 31) (.tmp 33) _ rfl w.heap.size 48 it _ 8 64 Tryz.underlying25 hit ht0 ht1 ht2 rfl (by omega) (by omega) _ k _ (zAa HOW) rfl _ 1 _ rfl rfl rfl (by simp [Value.oneCell']) (zAa HMQ5) hsz5 ?_); intro g4 cap4 w6 hg4 hown4 hbel4 hgr4 hat4
         have HB6 := hide (hbel4 w.heap.size w (Nat.le_refl _) (zAa HBB))
         have HS6 := hide (show zFp w6 w.heap.size (.slice (some ⟨g4, 0, none⟩) (k + 1) cap4) (zCk ds (k + 1)) by
          unfold zFp
          rw [zFh, zAa HST, List.flatMap_append]
          simpa [StpI.cells] using hown4)
         clear hg4 hown4 hbel4 hgr4 hat4 hsz5))
     go_roundw
     case rel => exact ⟨k + 1, by omega, by omega, by go_num, by rw [zAa HFE], HS6, HB6⟩
     case measure => simp [intOf]; omega
   ·obtain rfl : k = m := by omega
    have d1 : decide ((k : Int) < (n : Int)) = true := by simp; omega
    have d2 : decide ((k : Int) < (k : Int)) = false := by simp
    have HF := hide (show zCk ds k = zJs ds k by unfold zJs; rw [zAa HL, Nat.min_eq_left (by omega)])
    go_wp2_with fail
    go_ret
    exact ⟨_, rfl, by rw [← zAa HF]; exact zAa HS, zAa HBE⟩
  ·obtain rfl : k = n := by omega
   have d1 : decide ((k : Int) < (k : Int)) = false := by simp
   have HF := hide (show zCk ds k = zJs ds m by unfold zJs; rw [zAa HL, Nat.min_eq_right (by omega)])
   go_wp2_with fail
   go_ret
   exact ⟨_, rfl, by rw [← zAa HF]; exact zAa HS, zAa HBE⟩
end
end Go.Proofs.YtbolcebmbpepdaaGreatDoor
