/- Contracts and plain facts, set together by program out of smaller texts. Conditions: none beyond what each theorem states. -/
import Derived.Test.YtbolcebmbpepdaaGreatDoorM35
import Derived.Test.YtbolcebmbpepdaaGreatDoorM23
import Derived.Test.YtbolcebmbpepdaaGreatDoorM16
import Derived.Test.YtbolcebmbpepdaaGreatDoorM32
import Derived.Test.YtbolcebmbpepdaaGreatDoorM33
namespace Go.Proofs.YtbolcebmbpepdaaGreatDoor
set_option linter.unusedVariables false
section
open Go.RowKit
section
variable {w : World} {c : Cfg} {y : Lay} {S : WS} {K base : Nat} {ow : Nat → Tag}
theorem due_zero {id : Int} (h : dueW S id = 0) : ∃ (k : Nat) (p : PoD), id = k ∧ S.lts[k]? = some p ∧ 0 ≤ p.to_ ∧ S.top p.fr p.to_ ≤ k ∧ toP S.lts id = p.to_ := by
 unfold dueW WS.to_ at h
 split at h
 ·cases h
 ·rename_i h1
  have hid : 0 ≤ id := by
   refine Int.not_lt.1 fun e => h1 ?_
   unfold toP; rw [if_pos e]; decide
  obtain ⟨k, rfl⟩ := Int.eq_ofNat_of_zero_le hid
  rw [Int.toNat_natCast] at h
  cases hp : S.lts[k]? with
  | none => rw [hp] at h; cases h
  | some p =>
   rw [hp] at h
   dsimp only at h
   have htp : toP S.lts k = p.to_ := by unfold toP; rw [if_neg (by omega), Int.toNat_natCast, hp]
   refine ⟨k, p, rfl, hp, by rw [← htp]; omega, ?_, htp⟩
   split at h
   ·cases h
   ·rename_i h2
    simp only [Bool.or_eq_true, decide_eq_true_eq, not_or] at h2
    omega
set_option maxRecDepth 100000 in
set_option maxHeartbeats 4000000 in
theorem zVz (h : PW w c y S K base ow) (N : Nat) (hS : S.ok c N) (hN : N ≤ 10000) (hK : K < 1000000) (id : Int) (hwf : (Lit.int .i64 id).wf = true) (hd : dueW S id = 6) :
    Calls Tryz.prog 64 #[.pointer (some ⟨y.hb, 0, none⟩), .int .i64 id] w (zBo w c y (K + 1) base ow (zCj c S id)) := by
 have HE := hide (show zCj c S id = (zAy 6 0, S) from if_pos hd)
 obtain ⟨q, hq⟩ : ∃ q, q = w.heap.size := ⟨_, rfl⟩
 obtain ⟨wx, hwx⟩ : ∃ wx, wx = w.alloc (.cells (tol0 0 0).cells.toArray 57) := ⟨_, rfl⟩
 have hbx : Below w.heap.size w wx := by rw [hwx]; exact (Below.refl _ _).alloc (Nat.le_refl _) _
 have kq : Blk wx q 57 (tol0 0 0).cells.toArray := by rw [hwx, hq]; exact Blk.new _ _ _
 have hx := h.calm hbx
 have hlen : S.lts.length ≤ 1000000 := by have := hS.len; omega
 have HNO := hide (fun e W => zCi e W)
 unfold tol0 zAy Tol.val Stk.none at HNO
 dsimp only at HNO
 have HDU := hide (zOa hx id hwf hlen)
 have HX := hide hx
 have HKQ := hide kq
 have HBX := hide hbx
 have HQ := hide hq
 have HH := hide h
 have HWX := hide hwx
 have HNQ := hide (show ow q = .no from h.fresh q (by omega))
 rw [hd] at HDU
 clear hx kq hbx hq h hwx hd
 go_enter Tryz.func64, Tryz.ntmps64
 go_upto_region 1 with fail
 rw [show (#[.int .i64 0, .int .i64 0, .int .i64 0, .int .i64 0, .int .i64 0, .int .i64 0, .int .i64 0, .int .i64 0, .slice none 0 0, .slice none 0 0, .slice none 0 0] : Array Value) = (tol0 0 0).cells.toArray from rfl, ← zAa HWX, ← zAa HQ]
 go_wp2_with fail
 refine (zAa HDU).mono ?_
 rintro _ w2 ⟨rfl, hb2⟩
 have HK2 := hide ((zAa HKQ).below hb2 (zAa HKQ).lt)
 have HB2 := hide ((zAa HBX).trans (hb2.mono (zAa HBX).size))
 have HX2 := hide ((zAa HX).calm hb2)
 clear hb2
 go_wp2_with fail
 refine (zAa HNO 6 w2).mono ?_
 rintro _ w6 ⟨rfl, hb6⟩
 have HK6 := hide ((zAa HK2).below hb6 (zAa HK2).lt)
 have HB6 := hide ((zAa HB2).trans (hb6.mono (zAa HB2).size))
 clear hb6
 obtain ⟨g0, g1, g2, g3, g4, g5, g6, g7, g8, g9, g10⟩ := zBl (zAa HK6)
 obtain ⟨f0, f1, f2, f3, f4, f5, f6, f7, f8, f9, f10⟩ := zBi (zAa HK6)
 go_wp2_with fail
 change bodyPost _ _ _ _ _ (wrT w6 q (tol0 6 0))
 have k9 := zCc (zAa HK6) rfl (tol0 6 0)
 have HO9 := hide (zBk w6 q (tol0 6 0))
 clear g0 g1 g2 g3 g4 g5 g6 g7 g8 g9 g10 f0 f1 f2 f3 f4 f5 f6 f7 f8 f9 f10
 generalize wrT w6 q (tol0 6 0) = w9 at k9 HO9 ⊢
 obtain ⟨d0, d1, d2, d3, d4, d5, d6, d7, d8, d9, d10⟩ := zAt k9
 refine bodyPost_ret (v := ((tol0 6 0)).val) (by simp [results, Tryz.results64, go_sem, d0, d1, d2, d3, d4, d5, d6, d7, d8, d9, d10, Tol.val]) rfl (by rw [zAa HE]; obtain ⟨o1, h1, h2⟩ := Turned.nobody (zAa HH) (zAa HB6) (zAa HO9) (by rw [zAa HQ]; exact Nat.le_refl _); exact ⟨tol0 6 0, rfl, rfl, zGy _ _ _ _, o1, h1.more (Nat.le_succ K), h2, zIg _ _ _⟩)
set_option maxRecDepth 100000 in
set_option maxHeartbeats 4000000 in
theorem zYc (h : PW w c y S K base ow) (N : Nat) (hS : S.ok c N) (hN : N ≤ 10000) (hK : K < 1000000) (id : Int) (hwf : (Lit.int .i64 id).wf = true) (hd : dueW S id ≠ 6) (hd0 : dueW S id ≠ 0) :
    Calls Tryz.prog 64 #[.pointer (some ⟨y.hb, 0, none⟩), .int .i64 id] w (zBo w c y (K + 1) base ow (zCj c S id)) := by
 obtain ⟨p, hE, hto⟩ : ∃ p : PoD, zCj c S id = (zAy (dueW S id) p.to_, S) ∧ toP S.lts id = p.to_ := by
  unfold zCj
  rw [if_neg hd]
  cases hp : S.lts[id.toNat]? with
  | none =>
   exfalso
   apply hd
   unfold dueW
   rw [hp]
   split <;> rfl
  | some p =>
   dsimp only
   rw [if_pos hd0]
   refine ⟨p, rfl, ?_⟩
   unfold toP
   rw [hp]
   refine if_neg fun e => hd ?_
   unfold dueW WS.to_ toP
   rw [if_pos e]
   rfl
 obtain ⟨q, hq⟩ : ∃ q, q = w.heap.size := ⟨_, rfl⟩
 obtain ⟨wx, hwx⟩ : ∃ wx, wx = w.alloc (.cells (tol0 0 0).cells.toArray 57) := ⟨_, rfl⟩
 have hbx : Below w.heap.size w wx := by rw [hwx]; exact (Below.refl _ _).alloc (Nat.le_refl _) _
 have kq : Blk wx q 57 (tol0 0 0).cells.toArray := by rw [hwx, hq]; exact Blk.new _ _ _
 have hx := h.calm hbx
 have hlen : S.lts.length ≤ 1000000 := by have := hS.len; omega
 have HNO := hide (fun e W => zCi e W)
 unfold tol0 zAy Tol.val Stk.none at HNO
 dsimp only at HNO
 have HDU := hide (zOa hx id hwf hlen)
 have HX := hide hx
 have HKQ := hide kq
 have HBX := hide hbx
 have HQ := hide hq
 have HH := hide h
 have HWX := hide hwx
 have HNQ := hide (show ow q = .no from h.fresh q (by omega))
 obtain ⟨⟨v, ps, m, hof, _, hps, _, _⟩, _, _⟩ := h.pc .off
 have hpl : ps.length = S.lts.length := by rw [← hps, List.length_map]
 have HTO := hide (fun W (hW : Below w.heap.size w W) => zHt base y.og y.ob m v ps S.top W id (hof.calm hW) (by omega))
 rw [hps, hto] at HTO
 have HE := hide hE
 have d6 : (dueW S id == 6) = false := by simpa using hd
 have d0 : (dueW S id == 0) = false := by simpa using hd0
 have d1 : (dueW S id != 0) = true := by simpa using hd0
 generalize dueW S id = D at HDU HE d6 d0 d1
 clear hx kq hbx hq h hwx hd hd0 hof hps hpl hto hE
 go_enter Tryz.func64, Tryz.ntmps64
 go_upto_region 1 with fail
 rw [show (#[.int .i64 0, .int .i64 0, .int .i64 0, .int .i64 0, .int .i64 0, .int .i64 0, .int .i64 0, .int .i64 0, .slice none 0 0, .slice none 0 0, .slice none 0 0] : Array Value) = (tol0 0 0).cells.toArray from rfl, ← zAa HWX, ← zAa HQ]
 go_wp2_with fail
 refine (zAa HDU).mono ?_
 rintro _ w2 ⟨rfl, hb2⟩
 have HK2 := hide ((zAa HKQ).below hb2 (zAa HKQ).lt)
 have HB2 := hide ((zAa HBX).trans (hb2.mono (zAa HBX).size))
 have HX2 := hide ((zAa HX).calm hb2)
 clear hb2
 have c7 := ((zAa HX2).pc .con).blk.cell 7
 go_upto_region 4 with fail
 go_wp2_with fail
 refine (zAa HTO w2 (zAa HB2)).mono ?_
 rintro _ _ ⟨rfl, rfl⟩
 go_upto_region 5 with fail
 obtain ⟨w3, hw3⟩ : ∃ w3, w3 = w2.alloc (.cells ((⟨⟨D, p.to_, ⟨0, 0, 0, 0, 0⟩, 0, [], [], []⟩, none, 0, 0, none, 0, 0, none, 0, 0⟩ : Tol)).cells.toArray 57) := ⟨_, rfl⟩
 obtain ⟨b3, hb3⟩ : ∃ b3, b3 = w2.heap.size := ⟨_, rfl⟩
 have kb : Blk w3 b3 57 ((⟨⟨D, p.to_, ⟨0, 0, 0, 0, 0⟩, 0, [], [], []⟩, none, 0, 0, none, 0, 0, none, 0, 0⟩ : Tol)).cells.toArray := by rw [hw3, hb3]; exact Blk.new _ _ _
 have hbl : Below w2.heap.size w2 w3 := by rw [hw3]; exact (Below.refl _ _).alloc (Nat.le_refl _) _
 rw [show (#[.int .i64 D, .int .i64 p.to_, .int .i64 0, .int .i64 0, .int .i64 0, .int .i64 0, .int .i64 0, .int .i64 0, .slice none 0 0, .slice none 0 0, .slice none 0 0] : Array Value) = ((⟨⟨D, p.to_, ⟨0, 0, 0, 0, 0⟩, 0, [], [], []⟩, none, 0, 0, none, 0, 0, none, 0, 0⟩ : Tol)).cells.toArray from rfl, ← hw3, ← hb3]
 have HK3 := hide ((zAa HK2).below hbl (zAa HK2).lt)
 have HB3 := hide ((zAa HB2).trans (hbl.mono (zAa HB2).size))
 obtain ⟨x0, x1, x2, x3, x4, x5, x6, x7, x8, x9, x10⟩ := zAt kb
 clear hw3 hb3 kb hbl c7
 obtain ⟨g0, g1, g2, g3, g4, g5, g6, g7, g8, g9, g10⟩ := zBl (zAa HK3)
 obtain ⟨f0, f1, f2, f3, f4, f5, f6, f7, f8, f9, f10⟩ := zBi (zAa HK3)
 go_wp2_with fail
 change bodyPost _ _ _ _ _ (wrT w3 q (⟨⟨D, p.to_, ⟨0, 0, 0, 0, 0⟩, 0, [], [], []⟩, none, 0, 0, none, 0, 0, none, 0, 0⟩ : Tol))
 have k9 := zCc (zAa HK3) rfl (⟨⟨D, p.to_, ⟨0, 0, 0, 0, 0⟩, 0, [], [], []⟩, none, 0, 0, none, 0, 0, none, 0, 0⟩ : Tol)
 have HO9 := hide (zBk w3 q (⟨⟨D, p.to_, ⟨0, 0, 0, 0, 0⟩, 0, [], [], []⟩, none, 0, 0, none, 0, 0, none, 0, 0⟩ : Tol))
 clear g0 g1 g2 g3 g4 g5 g6 g7 g8 g9 g10 f0 f1 f2 f3 f4 f5 f6 f7 f8 f9 f10
 generalize wrT w3 q (⟨⟨D, p.to_, ⟨0, 0, 0, 0, 0⟩, 0, [], [], []⟩, none, 0, 0, none, 0, 0, none, 0, 0⟩ : Tol) = w9 at k9 HO9 ⊢
 obtain ⟨d0, d1, d2, d3, d4, d5, d6, d7, d8, d9, d10⟩ := zAt k9
 refine bodyPost_ret (v := ((⟨⟨D, p.to_, ⟨0, 0, 0, 0, 0⟩, 0, [], [], []⟩, none, 0, 0, none, 0, 0, none, 0, 0⟩ : Tol)).val) (by simp [results, Tryz.results64, go_sem, d0, d1, d2, d3, d4, d5, d6, d7, d8, d9, d10, Tol.val]) rfl (by rw [zAa HE]; obtain ⟨o1, h1, h2⟩ := Turned.nobody (zAa HH) (zAa HB3) (zAa HO9) (by rw [zAa HQ]; exact Nat.le_refl _); exact ⟨(⟨⟨D, p.to_, ⟨0, 0, 0, 0, 0⟩, 0, [], [], []⟩, none, 0, 0, none, 0, 0, none, 0, 0⟩ : Tol), rfl, rfl, ⟨World.ownsRow_nil _ _ _ _, World.ownsRow_nil _ _ _ _, World.ownsRow_nil _ _ _ _⟩, o1, h1.more (Nat.le_succ K), h2, fun v hv k hk => by rcases hv with rfl | rfl | rfl <;> cases hk⟩)
end
end
section
open Go.RowKit
section
variable {w : World} {c : Cfg} {y : Lay} {S : WS} {K base : Nat} {ow : Nat → Tag}
structure GainAt (w : World) (c : Cfg) (y : Lay) (S : WS) (K base : Nat) (ow : Nat → Tag) (i : Nat) (l : List Int) (k : Nat) (wr : World) (ow' : Nat → Tag) : Prop where
 pw : PW wr c y (zBa i l k S) K base ow'
 kept : Kept w wr ow ow'
set_option maxRecDepth 100000 in
set_option maxHeartbeats 2000000 in
theorem yCl (h : PW w c y S K base ow) (N : Nat) (ho : S.ok c N) (hN : N ≤ 900000) (i : Nat) (hi : i < c.n) (A : Option Addr) (n cc b0 : Nat) (l : List Int) (hl : l.length = n) (hv : ∀ z ∈ l, 0 ≤ z ∧ z ≤ 1048576) (hn : n ≤ c.m)
    (hr : w.ownsRow b0 3 1 (.slice A n cc) n (l.map (.int .i64))) (hno : ∀ k, (Value.slice A n cc).ownBlock = some k → ow k = .no) :
    Calls Tryz.prog 88 #[.pointer (some ⟨(y.br i).b, 0, none⟩), .slice A n cc] w fun e w' => e = .returned (.tuple #[]) ∧ Turned w c y (zBa i l n S) K base ow w' := by
 have hm3 := (zAj h.may).2.2.2.1
 have HG := hide (fun k => zOz i l hv ho k)
 have HR := hide hr
 have HNO := hide hno
 have HV := hide hv
 have HL := hide hl
 have HS0 := hide (show GainAt w c y S K base ow i l 0 w ow from ⟨h, Kept.refl _ _⟩)
 clear h ho hr hno hv hl
 go_enter Tryz.func88, Tryz.ntmps88
 go_wp2_with fail
 go_loopw [8] (fun j W => ∃ (k : Nat) (ow' : Nat → Tag), k ≤ n ∧ j = .int .i64 k ∧ Hid (GainAt w c y S K base ow i l k W ow')) (fun j _ => n - (intOf j).toNat)
 case atStart => exact ⟨0, ow, Nat.zero_le _, rfl, HS0⟩
 case round =>
  obtain ⟨k, ow1, hk, rfl, HA⟩ := hrel
  by_cases hlt : k < n
  ·have hlt' : (k : Int) < (n : Int) := by omega
   have hrow := Reads.of_own ((zAa HA).kept.own (zAa HR) (zAa HNO))
   obtain ⟨b, o, z, rfl, _, hz, hcz⟩ := zDd hrow hlt
   have hcon := (zAa HA).pw.pc .con
   have hbr := hcon.brs i hi
   have hg := (zAa HA).pw.pc (.gn i) hi
   have hok := (zAa HG k).1
   have hkg : k < ((zBa i l k S).gn i).length := by rw [(hok.gn i).1]; omega
   obtain ⟨z0, hz0⟩ : ∃ z0, ((zBa i l k S).gn i)[k]? = some z0 := ⟨_, List.getElem?_eq_getElem hkg⟩
   have d0 : wr.cell? ⟨(y.br i).b, 0, none⟩ = some (.slice (some ⟨(y.br i).s, 0, none⟩) c.m c.m) := hbr.cell 0
   have d2 : wr.cell? ⟨(y.br i).b, 2, none⟩ = some (.slice (some ⟨(y.br i).g, 0, none⟩) c.m c.m) := hbr.cell 2
   have e0 := hg.row.cell hz0
   have hkm : (k : Int) < (c.m : Int) := by omega
   have hkm' : k < c.m := by omega
   have hzb := zAa HV z (List.mem_of_getElem? hz)
   have hz0b := (hok.gn i).2 z0 (List.mem_of_getElem? hz0)
   have hgz : l.getD k 0 = z := by rw [List.getD_eq_getElem?_getD, hz]; rfl
   have hgz0 : ((zBa i l k S).gn i).getD k 0 = z0 := by rw [List.getD_eq_getElem?_getD, hz0]; rfl
   have HDO := hide (fun n : Ext wr => zJn (ow := ow1) ⟨1, z - z0, 0, 0⟩ i k ((zAa HA).pw.calm n.h) hi hkm' N ((zAa HG k).2 i k (Or.inr (Nat.le_refl _))) (by omega))
   have HGN := hide (show zBa i l (k + 1) S = if z0 < z then { zBa i l k S with sh := upd1 (zBa i l k S).sh i (upd1 ((zBa i l k S).sh i) k (((zBa i l k S).sh i k).does ⟨1, z - z0, 0, 0⟩).1), gn := upd1 (zBa i l k S).gn i (((zBa i l k S).gn i).set k z) } else zBa i l k S by
    rw [zBa, gnAt, hgz, hgz0])
   have HK := hide hkg
   clear hrow hbr hcon hg hok hz hz0 hkg hgz hgz0
   by_cases hzz : z0 < z
   ·go_upto_region 4 with fail
    unfold Ordr.val at HDO
    dsimp only at HDO
    have q0 := fun n : Ext wr => n.cell d0
    have q2 := fun n : Ext wr => n.cell d2
    have q3 := fun n : Ext wr => n.cell e0
    clear d0 d2 e0 hcz
    refine zCy 16 (by kernel_rfl) (by kernel_rfl) ?_
    simp only [List.take_succ_cons, List.take_zero, List.drop_succ_cons, List.drop_zero]
    repeat (go_big_quiet_step (fail))
    refine wpQuiet_nil ?_
    rintro _ ⟨nq, rfl⟩
    go_wp2_with fail
    refine (zAa HDO nq).mono ?_
    rintro _ w2 ⟨rfl, ow2, hp2, hk2⟩
    have hbr2 := (hp2.pc .con).brs i hi
    have hg2 := hp2.pc (.gn i) hi
    have d2 : w2.cell? ⟨(y.br i).b, 2, none⟩ = some (.slice (some ⟨(y.br i).g, 0, none⟩) c.m c.m) := hbr2.cell 2
    have e0 := hg2.row.cell (show ((zBa i l k S).gn i)[k]? = some (((zBa i l k S).gn i)[k]'(zAa HK)) from List.getElem?_eq_getElem _)
    have e1 := hg2.row.frozen k
    have HP2 := hide hp2
    have HK2 := hide hk2
    have hkn := nq.h
    have HKN := hide hkn
    clear hbr2 hg2 hp2 hk2 q0 q2 q3 hkn
    go_upto_region 5 with fail
    go_wp2_with fail
    obtain ⟨ow3, hp3, hk3⟩ := PW.setGn (zAa HP2) hi (zAa HK) z
    have e := zAa HGN
    rw [if_pos hzz] at e
    refine ⟨⟨k + 1, ow3, by omega, by go_num, hide ⟨by rw [e]; exact hp3, (((zAa HA).kept.trans (Kept.calm (zAa HKN))).trans (zAa HK2)).trans hk3⟩⟩, by simp [intOf]; omega⟩
   ·go_upto_region 4 with fail
    go_wp2_with fail
    have e := zAa HGN
    rw [if_neg (Int.not_lt.2 hzz)] at e
    refine ⟨⟨k + 1, by omega, by simp, ow1, hide ⟨by rw [e]; exact (zAa HA).pw, (zAa HA).kept⟩⟩, by simp [intOf]; omega⟩
  ·obtain rfl : k = n := by omega
   go_wp2_with fail
   go_end0
   exact ⟨rfl, _, (zAa HA).pw, (zAa HA).kept⟩
end
end
end Go.Proofs.YtbolcebmbpepdaaGreatDoor
