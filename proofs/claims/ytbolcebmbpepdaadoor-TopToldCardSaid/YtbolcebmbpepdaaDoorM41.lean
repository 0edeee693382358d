/- Contracts and plain facts, set together by program out of smaller texts. Conditions: none beyond what each theorem states. -/
import Derived.Test.YtbolcebmbpepdaaDoorM40
namespace Go.Proofs.YtbolcebmbpepdaaDoor
set_option linter.unusedVariables false
section
open Go.RowKit
/-- the table of the orders of a stock -/
def OrdT (w : World) : Prop := ∀ k : Nat, k < 5 → w.cell? ⟨0, k, none⟩ = some (.int .i64 ((k : Int) + 2))
section
variable {w : World} {c : Cfg} {y : Lay} {S : WS} {K base : Nat} {ow : Nat → Tag}
theorem TolOwn.put {t : Tol} {w w' : World} {B b : Nat} (h : TolOwn t w B) (ho : Only (fun k => k = b) w w') (hb : b < B) : TolOwn t w' B :=
  ⟨own_only h.so ho (fun g hg e => by have := (h.so.lt g hg).1; omega), own_only h.fo ho (fun g hg e => by have := (h.fo.lt g hg).1; omega), own_only h.ro ho (fun g hg e => by have := (h.ro.lt g hg).1; omega)⟩
theorem stepPost_told {w2 w9 : World} {ow2 : Nat → Tag} {S' : WS} {t : Tol} {B q : Nat} {r : TolD × WS} (hp : PW w2 c y S' K base ow2) (hk : Kept w w2 ow ow2) (hto : TolOwn t w2 B) (hB : q < B) (hwB : w.heap.size ≤ B) (ho : Only (fun k => k = q) w2 w9) (hq : w.heap.size ≤ q) (hn : ow2 q = .no) (htn : TolNo t ow2) (hd : t.d = r.1) (hr : r.2 = S') (hw : base ≤ w.heap.size) : StepPost w c y K base ow r (.returned t.val) w9 := by
  subst hr
  exact ⟨t, rfl, hd, (hto.put ho hB).mono hwB, ow2, hp.own ho hn (Nat.le_trans hw hq), ⟨hk.only.trans ho (fun x hx e => by omega), hk.old⟩, htn⟩
set_option maxRecDepth 100000 in
set_option maxHeartbeats 4000000 in
theorem client_entry (h : PW w c y S K base ow) (N : Nat) (hS : S.ok c N) (hN : N ≤ 900000) (s : StpI) (i : Nat) (hi : i < c.n) (hw : s.who = i) (hk : s.kind = 7 ∨ s.kind = 8) :
    Calls Tryd.prog 28 #[.pointer (some ⟨y.hb, 0, none⟩), .pointer (some ⟨(y.br i).b, 0, none⟩), s.val] w (StepPost w c y K base ow (noWho (clientW c S s i).1, (clientW c S s i).2)) := by
  have HE := hide (show clientW c S s i = entryW c S s i from if_pos hk)
  have HEN := hide (fun W (hW : Below w.heap.size w W) => entry_any (h.calm hW) N hS s i hi hw)
  unfold StpI.val at HEN
  obtain ⟨kind, who, item, count, life, id, label, key⟩ := s
  dsimp only at hk hw
  unfold StpI.val
  dsimp only
  obtain ⟨p, hp⟩ : ∃ p, p = w.heap.size := ⟨_, rfl⟩
  obtain ⟨q, hq⟩ : ∃ q, q = w.heap.size + 1 := ⟨_, rfl⟩
  obtain ⟨wx, hwx⟩ : ∃ wx, wx = (w.alloc (.cells #[.int .i64 kind, .int .i64 who, .int .i64 item, .int .i64 count, .int .i64 life, .int .i64 id, .int .i64 label, .int .i64 key] 32)).alloc (.cells (tol0 0 0).cells.toArray 42) := ⟨_, rfl⟩
  have hbx : Below w.heap.size w wx := by rw [hwx]; exact ((Below.refl _ _).alloc (Nat.le_refl _) _).alloc (by simp) _
  have kp : Blk wx p 32 #[.int .i64 kind, .int .i64 who, .int .i64 item, .int .i64 count, .int .i64 life, .int .i64 id, .int .i64 label, .int .i64 key] := by rw [hwx, hp]; exact (Blk.new w _ _).alloc _
  have kq : Blk wx q 42 (tol0 0 0).cells.toArray := by
    have h1 := Blk.new (w.alloc (.cells #[.int .i64 kind, .int .i64 who, .int .i64 item, .int .i64 count, .int .i64 life, .int .i64 id, .int .i64 label, .int .i64 key] 32)) 42 (tol0 0 0).cells.toArray
    rw [hwx, hq]
    simpa using h1
  have hx := h.calm hbx
  have HNO := hide (fun e W => worldNo_any e W)
  unfold tol0 told0 Tol.val Stk.none at HNO
  dsimp only at HNO
  have s0 : wx.cell? ⟨p, 0, none⟩ = some (.int .i64 kind) := kp.cell 0
  have s1 : wx.cell? ⟨p, 1, none⟩ = some (.int .i64 who) := kp.cell 1
  have s2 : wx.cell? ⟨p, 2, none⟩ = some (.int .i64 item) := kp.cell 2
  have s3 : wx.cell? ⟨p, 3, none⟩ = some (.int .i64 count) := kp.cell 3
  have s4 : wx.cell? ⟨p, 4, none⟩ = some (.int .i64 life) := kp.cell 4
  have s5 : wx.cell? ⟨p, 5, none⟩ = some (.int .i64 id) := kp.cell 5
  have s6 : wx.cell? ⟨p, 6, none⟩ = some (.int .i64 label) := kp.cell 6
  have s7 : wx.cell? ⟨p, 7, none⟩ = some (.int .i64 key) := kp.cell 7
  have HX := hide hx
  have HKP := hide kp
  have HKQ := hide kq
  have HBX := hide hbx
  have HP := hide hp
  have HQ := hide hq
  have HH := hide h
  have HWX := hide hwx
  have HNQ := hide (show ow q = .no from h.fresh q (by omega))
  have HNP := hide (show ow p = .no from h.fresh p (by omega))
  have hm3 := (config_facts h.may).2.2.2.1
  dsimp only at HEN
  clear hx kp kq hbx hp hq h hwx s1 s2 s3 s4 s5 s6 s7 hw
  have hd : (kind == 7) = true ∨ ((kind == 7) = false ∧ (kind == 8) = true) := by
    simp only [beq_iff_eq, beq_eq_false_iff_ne]
    omega
  go_enter Tryd.func28, Tryd.ntmps28
  go_upto_region 1 with fail
  rw [show (#[.int .i64 0, .int .i64 0, .int .i64 0, .int .i64 0, .int .i64 0, .int .i64 0, .int .i64 0, .int .i64 0, .slice none 0 0, .slice none 0 0, .slice none 0 0] : Array Value) = (tol0 0 0).cells.toArray from rfl, ← unhide HWX, ← unhide HQ, ← unhide HP]
  have s1 := (unhide HKP).cell 1
  have s2 := (unhide HKP).cell 2
  have s3 := (unhide HKP).cell 3
  have s4 := (unhide HKP).cell 4
  have s5 := (unhide HKP).cell 5
  have s6 := (unhide HKP).cell 6
  have s7 := (unhide HKP).cell 7
  rcases hd with a1 | ⟨a1, a2⟩
  all_goals
    go_wp2_with fail
    refine (unhide HEN wx (unhide HBX)).mono ?_
    rintro _ w2 ⟨t, rfl, hd, hto, ow2, hp2, hk2, hn2⟩
    have HK2 := hide (hk2.blk (unhide HKQ) (unhide HNQ))
    have HP2 := hide hp2
    have HKK := hide ((Kept.calm (unhide HBX)).trans hk2)
    have HN2 := hide (show ow2 q = .no from (hk2.old q (unhide HKQ).lt).trans (unhide HNQ))
    have HTO := hide hto
    have HTN := hide hn2
    have HTD := hide hd
    unfold Tol.val
    clear hp2 hk2 hto hn2 hd s0 s1 s2 s3 s4 s5 s6 s7
    obtain ⟨g0, g1, g2, g3, g4, g5, g6, g7, g8, g9, g10⟩ := tol_zero (unhide HK2)
    obtain ⟨f0, f1, f2, f3, f4, f5, f6, f7, f8, f9, f10⟩ := tol_free (unhide HK2)
    go_wp2_with fail
    change bodyPost _ _ _ _ _ (wrT w2 q t)
    have k9 := wrT_blk (unhide HK2) rfl t
    have HO9 := hide (wrT_only w2 q t)
    clear g0 g1 g2 g3 g4 g5 g6 g7 g8 g9 g10 f0 f1 f2 f3 f4 f5 f6 f7 f8 f9 f10
    generalize wrT w2 q t = w9 at k9 HO9 ⊢
    obtain ⟨d0, d1, d2, d3, d4, d5, d6, d7, d8, d9, d10⟩ := tol_cells k9
    refine bodyPost_ret (v := (t).val) (by simp [results, Tryd.results28, go_sem, d0, d1, d2, d3, d4, d5, d6, d7, d8, d9, d10, Tol.val]) rfl (stepPost_told (unhide HP2) (unhide HKK) (unhide HTO) (unhide HKQ).lt (unhide HBX).size (unhide HO9) (by rw [unhide HQ]; omega) (unhide HN2) (unhide HTN) ((unhide HTD).trans (by rw [unhide HE])) (by rw [unhide HE]) (unhide HH).bw)
set_option maxRecDepth 100000 in
set_option maxHeartbeats 4000000 in
theorem client_range (h : PW w c y S K base ow) (N : Nat) (hS : S.ok c N) (hN : N ≤ 900000) (s : StpI) (i : Nat) (hi : i < c.n) (hw : s.who = i) (hk : ¬ (s.kind = 7 ∨ s.kind = 8)) (hb : s.item < 0 ∨ (c.m : Int) ≤ s.item) :
    Calls Tryd.prog 28 #[.pointer (some ⟨y.hb, 0, none⟩), .pointer (some ⟨(y.br i).b, 0, none⟩), s.val] w (StepPost w c y K base ow (noWho (clientW c S s i).1, (clientW c S s i).2)) := by
  have HE := hide (show clientW c S s i = (told0 2 i, S) from (if_neg hk).trans (if_pos hb))
  obtain ⟨kind, who, item, count, life, id, label, key⟩ := s
  dsimp only at hk hw
  unfold StpI.val
  dsimp only
  obtain ⟨p, hp⟩ : ∃ p, p = w.heap.size := ⟨_, rfl⟩
  obtain ⟨q, hq⟩ : ∃ q, q = w.heap.size + 1 := ⟨_, rfl⟩
  obtain ⟨wx, hwx⟩ : ∃ wx, wx = (w.alloc (.cells #[.int .i64 kind, .int .i64 who, .int .i64 item, .int .i64 count, .int .i64 life, .int .i64 id, .int .i64 label, .int .i64 key] 32)).alloc (.cells (tol0 0 0).cells.toArray 42) := ⟨_, rfl⟩
  have hbx : Below w.heap.size w wx := by rw [hwx]; exact ((Below.refl _ _).alloc (Nat.le_refl _) _).alloc (by simp) _
  have kp : Blk wx p 32 #[.int .i64 kind, .int .i64 who, .int .i64 item, .int .i64 count, .int .i64 life, .int .i64 id, .int .i64 label, .int .i64 key] := by rw [hwx, hp]; exact (Blk.new w _ _).alloc _
  have kq : Blk wx q 42 (tol0 0 0).cells.toArray := by
    have h1 := Blk.new (w.alloc (.cells #[.int .i64 kind, .int .i64 who, .int .i64 item, .int .i64 count, .int .i64 life, .int .i64 id, .int .i64 label, .int .i64 key] 32)) 42 (tol0 0 0).cells.toArray
    rw [hwx, hq]
    simpa using h1
  have hx := h.calm hbx
  have HNO := hide (fun e W => worldNo_any e W)
  unfold tol0 told0 Tol.val Stk.none at HNO
  dsimp only at HNO
  have s0 : wx.cell? ⟨p, 0, none⟩ = some (.int .i64 kind) := kp.cell 0
  have s1 : wx.cell? ⟨p, 1, none⟩ = some (.int .i64 who) := kp.cell 1
  have s2 : wx.cell? ⟨p, 2, none⟩ = some (.int .i64 item) := kp.cell 2
  have s3 : wx.cell? ⟨p, 3, none⟩ = some (.int .i64 count) := kp.cell 3
  have s4 : wx.cell? ⟨p, 4, none⟩ = some (.int .i64 life) := kp.cell 4
  have s5 : wx.cell? ⟨p, 5, none⟩ = some (.int .i64 id) := kp.cell 5
  have s6 : wx.cell? ⟨p, 6, none⟩ = some (.int .i64 label) := kp.cell 6
  have s7 : wx.cell? ⟨p, 7, none⟩ = some (.int .i64 key) := kp.cell 7
  have HX := hide hx
  have HKP := hide kp
  have HKQ := hide kq
  have HBX := hide hbx
  have HP := hide hp
  have HQ := hide hq
  have HH := hide h
  have HWX := hide hwx
  have HNQ := hide (show ow q = .no from h.fresh q (by omega))
  have HNP := hide (show ow p = .no from h.fresh p (by omega))
  have hm3 := (config_facts h.may).2.2.2.1
  dsimp only at hb
  have d1 : wx.cell? ⟨(y.br i).b, 1, none⟩ = some (.slice (some ⟨(y.br i).a, 0, none⟩) c.m c.m) := ((hx.pc .con).brs i hi).cell 1
  clear hx kp kq hbx hp hq h hwx s1 s3 s4 s5 s6 s7 hw
  have a1 : (kind == 7) = false := by simp only [beq_eq_false_iff_ne]; omega
  have a2 : (kind == 8) = false := by simp only [beq_eq_false_iff_ne]; omega
  have hd : decide (item < 0) = true ∨ (decide (item < 0) = false ∧ decide ((c.m : Int) ≤ item) = true) := by
    simp only [decide_eq_true_eq, decide_eq_false_iff_not]
    omega
  clear hb hk
  go_enter Tryd.func28, Tryd.ntmps28
  go_upto_region 1 with fail
  rw [show (#[.int .i64 0, .int .i64 0, .int .i64 0, .int .i64 0, .int .i64 0, .int .i64 0, .int .i64 0, .int .i64 0, .slice none 0 0, .slice none 0 0, .slice none 0 0] : Array Value) = (tol0 0 0).cells.toArray from rfl, ← unhide HWX, ← unhide HQ, ← unhide HP]
  go_upto_region 3 with fail
  rcases hd with b1 | ⟨b1, b2⟩
  all_goals
    go_quiet (fail)
    have HW := hide (below_drewN (Below.refl wx.heap.size wx) nq)
    have HK2 := hide ((unhide HKQ).drewN nq)
    generalize wx.drewN nq = w2 at HW HK2 ⊢
    clear d1 s0 s2
    go_wp2_with fail
    refine (unhide HNO 2 w2).mono ?_
    rintro _ w6 ⟨rfl, hb6⟩
    have HK6 := hide ((unhide HK2).below hb6 (unhide HK2).lt)
    have HB6 := hide ((unhide HW).trans (hb6.mono (unhide HW).size))
    clear hb6
    obtain ⟨g0, g1, g2, g3, g4, g5, g6, g7, g8, g9, g10⟩ := tol_zero (unhide HK6)
    obtain ⟨f0, f1, f2, f3, f4, f5, f6, f7, f8, f9, f10⟩ := tol_free (unhide HK6)
    go_wp2_with fail
    change bodyPost _ _ _ _ _ (wrT w6 q (tol0 2 0))
    have k9 := wrT_blk (unhide HK6) rfl (tol0 2 0)
    have HO9 := hide (wrT_only w6 q (tol0 2 0))
    clear g0 g1 g2 g3 g4 g5 g6 g7 g8 g9 g10 f0 f1 f2 f3 f4 f5 f6 f7 f8 f9 f10
    generalize wrT w6 q (tol0 2 0) = w9 at k9 HO9 ⊢
    obtain ⟨d0, d1, d2, d3, d4, d5, d6, d7, d8, d9, d10⟩ := tol_cells k9
    refine bodyPost_ret (v := ((tol0 2 0)).val) (by simp [results, Tryd.results28, go_sem, d0, d1, d2, d3, d4, d5, d6, d7, d8, d9, d10, Tol.val]) rfl (stepPost_plain 2 (unhide HE) (Turned.nobody (unhide HH) ((unhide HBX).trans ((unhide HB6).mono (unhide HBX).size)) (unhide HO9) (by rw [unhide HQ]; omega)))
set_option maxRecDepth 100000 in
set_option maxHeartbeats 4000000 in
theorem client_ask (h : PW w c y S K base ow) (N : Nat) (hS : S.ok c N) (hN : N ≤ 900000) (s : StpI) (i : Nat) (hi : i < c.n) (hw : s.who = i) (hk : s.kind = 1) (hb : 0 ≤ s.item ∧ s.item < c.m) :
    Calls Tryd.prog 28 #[.pointer (some ⟨y.hb, 0, none⟩), .pointer (some ⟨(y.br i).b, 0, none⟩), s.val] w (StepPost w c y K base ow (noWho (clientW c S s i).1, (clientW c S s i).2)) := by
  obtain ⟨kind, who, item, count, life, id, label, key⟩ := s
  dsimp only at hk hw
  unfold StpI.val
  dsimp only
  obtain ⟨p, hp⟩ : ∃ p, p = w.heap.size := ⟨_, rfl⟩
  obtain ⟨q, hq⟩ : ∃ q, q = w.heap.size + 1 := ⟨_, rfl⟩
  obtain ⟨wx, hwx⟩ : ∃ wx, wx = (w.alloc (.cells #[.int .i64 kind, .int .i64 who, .int .i64 item, .int .i64 count, .int .i64 life, .int .i64 id, .int .i64 label, .int .i64 key] 32)).alloc (.cells (tol0 0 0).cells.toArray 42) := ⟨_, rfl⟩
  have hbx : Below w.heap.size w wx := by rw [hwx]; exact ((Below.refl _ _).alloc (Nat.le_refl _) _).alloc (by simp) _
  have kp : Blk wx p 32 #[.int .i64 kind, .int .i64 who, .int .i64 item, .int .i64 count, .int .i64 life, .int .i64 id, .int .i64 label, .int .i64 key] := by rw [hwx, hp]; exact (Blk.new w _ _).alloc _
  have kq : Blk wx q 42 (tol0 0 0).cells.toArray := by
    have h1 := Blk.new (w.alloc (.cells #[.int .i64 kind, .int .i64 who, .int .i64 item, .int .i64 count, .int .i64 life, .int .i64 id, .int .i64 label, .int .i64 key] 32)) 42 (tol0 0 0).cells.toArray
    rw [hwx, hq]
    simpa using h1
  have hx := h.calm hbx
  have HNO := hide (fun e W => worldNo_any e W)
  unfold tol0 told0 Tol.val Stk.none at HNO
  dsimp only at HNO
  have s0 : wx.cell? ⟨p, 0, none⟩ = some (.int .i64 kind) := kp.cell 0
  have s1 : wx.cell? ⟨p, 1, none⟩ = some (.int .i64 who) := kp.cell 1
  have s2 : wx.cell? ⟨p, 2, none⟩ = some (.int .i64 item) := kp.cell 2
  have s3 : wx.cell? ⟨p, 3, none⟩ = some (.int .i64 count) := kp.cell 3
  have s4 : wx.cell? ⟨p, 4, none⟩ = some (.int .i64 life) := kp.cell 4
  have s5 : wx.cell? ⟨p, 5, none⟩ = some (.int .i64 id) := kp.cell 5
  have s6 : wx.cell? ⟨p, 6, none⟩ = some (.int .i64 label) := kp.cell 6
  have s7 : wx.cell? ⟨p, 7, none⟩ = some (.int .i64 key) := kp.cell 7
  have HX := hide hx
  have HKP := hide kp
  have HKQ := hide kq
  have HBX := hide hbx
  have HP := hide hp
  have HQ := hide hq
  have HH := hide h
  have HWX := hide hwx
  have HNQ := hide (show ow q = .no from h.fresh q (by omega))
  have HNP := hide (show ow p = .no from h.fresh p (by omega))
  have hm3 := (config_facts h.may).2.2.2.1
  dsimp only at hb
  obtain ⟨k, hkk⟩ : ∃ k : Nat, item = k := ⟨item.toNat, by omega⟩
  subst hkk
  subst hk
  have hkm : k < c.m := by omega
  obtain ⟨z, hz⟩ : ∃ z, (S.ask i)[k]? = some z := ⟨_, List.getElem?_eq_getElem (by rw [(hS.ask i).1]; exact hkm)⟩
  have hzb := (hS.ask i).2 z (List.mem_of_getElem? hz)
  have hgz : (S.ask i).getD k 0 = z := by rw [List.getD_eq_getElem?_getD, hz]; rfl
  have HE := hide (show clientW c S ⟨1, who, k, count, life, id, label, key⟩ i = (if count < 1 ∨ 1048576 < count then (told0 2 i, S) else if 1048576 < z + count then (told0 12 i, S) else (told0 0 i, { S with ask := upd1 S.ask i ((S.ask i).set k (z + count)) })) by
    unfold clientW
    dsimp only
    rw [if_neg (by omega), if_neg (by omega), if_pos rfl, Int.toNat_natCast, hgz])
  have d1 : wx.cell? ⟨(y.br i).b, 1, none⟩ = some (.slice (some ⟨(y.br i).a, 0, none⟩) c.m c.m) := ((hx.pc .con).brs i hi).cell 1
  have e1 : wx.cell? ⟨(y.br i).a, k, none⟩ = some (.int .i64 z) := IRow.cell (hx.pc (.ask i) hi).row hz
  have HZ := hide hz
  have HKL := hide (show k < (S.ask i).length by rw [(hS.ask i).1]; exact hkm)
  have D1 := hide d1
  have E1 := hide e1
  have T2 := hide s2
  have T3 := hide s3
  clear hx kp kq hbx hp hq h hwx s1 s4 s5 s6 s7 hw hgz hz
  have b1 : decide ((k : Int) < 0) = false := by simp
  have b2 : decide ((c.m : Int) ≤ (k : Int)) = false := by simp; omega
  have b3 : decide (c.m ≤ k) = false := by simp; omega
  have hkm2 : (k : Int) < (c.m : Int) := by omega
  go_enter Tryd.func28, Tryd.ntmps28
  go_upto_region 1 with fail
  rw [show (#[.int .i64 0, .int .i64 0, .int .i64 0, .int .i64 0, .int .i64 0, .int .i64 0, .int .i64 0, .int .i64 0, .slice none 0 0, .slice none 0 0, .slice none 0 0] : Array Value) = (tol0 0 0).cells.toArray from rfl, ← unhide HWX, ← unhide HQ, ← unhide HP]
  go_upto_region 3 with fail
  go_quiet (fail)
  have HW := hide (below_drewN (Below.refl wx.heap.size wx) nq)
  have HK2 := hide ((unhide HKQ).drewN nq)
  generalize wx.drewN nq = w2 at HW HK2 ⊢
  clear d1 s0 s2 s3 e1
  have r0 := Ext.cell (w := wx) ⟨w2, unhide HW⟩ ((unhide HKP).cell 0)
  have r2 := Ext.cell (w := wx) ⟨w2, unhide HW⟩ (unhide T2)
  have r3 := Ext.cell (w := wx) ⟨w2, unhide HW⟩ (unhide T3)
  have d1 := Ext.cell (w := wx) ⟨w2, unhide HW⟩ (unhide D1)
  have e1 := Ext.cell (w := wx) ⟨w2, unhide HW⟩ (unhide E1)
  by_cases hc : count < 1 ∨ 1048576 < count
  · have HG := hide ((unhide HE).trans (if_pos hc))
    have hd : decide (count < 1) = true ∨ (decide (count < 1) = false ∧ decide (1048576 < count) = true) := by
      simp only [decide_eq_true_eq, decide_eq_false_iff_not]
      omega
    clear hc
    rcases hd with a1 | ⟨a1, a2⟩
    all_goals
      go_wp2_with fail
      refine (unhide HNO 2 w2).mono ?_
      rintro _ w6 ⟨rfl, hb6⟩
      have HK6 := hide ((unhide HK2).below hb6 (unhide HK2).lt)
      have HB6 := hide ((unhide HW).trans (hb6.mono (unhide HW).size))
      clear hb6
      obtain ⟨g0, g1, g2, g3, g4, g5, g6, g7, g8, g9, g10⟩ := tol_zero (unhide HK6)
      obtain ⟨f0, f1, f2, f3, f4, f5, f6, f7, f8, f9, f10⟩ := tol_free (unhide HK6)
      go_wp2_with fail
      change bodyPost _ _ _ _ _ (wrT w6 q (tol0 2 0))
      have k9 := wrT_blk (unhide HK6) rfl (tol0 2 0)
      have HO9 := hide (wrT_only w6 q (tol0 2 0))
      clear g0 g1 g2 g3 g4 g5 g6 g7 g8 g9 g10 f0 f1 f2 f3 f4 f5 f6 f7 f8 f9 f10
      generalize wrT w6 q (tol0 2 0) = w9 at k9 HO9 ⊢
      obtain ⟨d0, d1, d2, d3, d4, d5, d6, d7, d8, d9, d10⟩ := tol_cells k9
      refine bodyPost_ret (v := ((tol0 2 0)).val) (by simp [results, Tryd.results28, go_sem, d0, d1, d2, d3, d4, d5, d6, d7, d8, d9, d10, Tol.val]) rfl (stepPost_plain 2 (unhide HG) (Turned.nobody (unhide HH) ((unhide HBX).trans ((unhide HB6).mono (unhide HBX).size)) (unhide HO9) (by rw [unhide HQ]; omega)))
  · have a1 : decide (count < 1) = false := by simp; omega
    have a2 : decide (1048576 < count) = false := by simp; omega
    have hcb : 1 ≤ count ∧ count ≤ 1048576 := by omega
    have HG := hide ((unhide HE).trans (if_neg hc))
    clear hc HE
    go_upto_region 8 with fail
    go_quiet (fail)
    have HW3 := hide (below_drewN (unhide HW) nq)
    have HK3 := hide ((unhide HK2).drewN nq)
    generalize w2.drewN nq = w3 at HW3 HK3 ⊢
    clear r0 r2 r3 d1 e1
    by_cases ho : 1048576 < z + count
    · have a3 : decide (1048576 < z + count) = true := by simpa using ho
      rw [a3]
      have HF := hide ((unhide HG).trans (if_pos ho))
      clear ho
      go_wp2_with fail
      refine (unhide HNO 12 w3).mono ?_
      rintro _ w6 ⟨rfl, hb6⟩
      have HK6 := hide ((unhide HK3).below hb6 (unhide HK3).lt)
      have HB6 := hide ((unhide HW3).trans (hb6.mono (unhide HW3).size))
      clear hb6
      obtain ⟨g0, g1, g2, g3, g4, g5, g6, g7, g8, g9, g10⟩ := tol_zero (unhide HK6)
      obtain ⟨f0, f1, f2, f3, f4, f5, f6, f7, f8, f9, f10⟩ := tol_free (unhide HK6)
      go_wp2_with fail
      change bodyPost _ _ _ _ _ (wrT w6 q (tol0 12 0))
      have k9 := wrT_blk (unhide HK6) rfl (tol0 12 0)
      have HO9 := hide (wrT_only w6 q (tol0 12 0))
      clear g0 g1 g2 g3 g4 g5 g6 g7 g8 g9 g10 f0 f1 f2 f3 f4 f5 f6 f7 f8 f9 f10
      generalize wrT w6 q (tol0 12 0) = w9 at k9 HO9 ⊢
      obtain ⟨d0, d1, d2, d3, d4, d5, d6, d7, d8, d9, d10⟩ := tol_cells k9
      refine bodyPost_ret (v := ((tol0 12 0)).val) (by simp [results, Tryd.results28, go_sem, d0, d1, d2, d3, d4, d5, d6, d7, d8, d9, d10, Tol.val]) rfl (stepPost_plain 12 (unhide HF) (Turned.nobody (unhide HH) ((unhide HBX).trans ((unhide HB6).mono (unhide HBX).size)) (unhide HO9) (by rw [unhide HQ]; omega)))
    · have a3 : decide (1048576 < z + count) = false := by simpa using ho
      rw [a3]
      have HF := hide ((unhide HG).trans (if_neg ho))
      clear ho
      go_upto_region 10 with fail
      have r2 := fun n : Nat => show (w3.drewN n).cell? ⟨p, 2, none⟩ = some (.int .i64 (k : Int)) from Ext.cell (w := wx) ⟨w3, unhide HW3⟩ (unhide T2)
      have r3 := fun n : Nat => show (w3.drewN n).cell? ⟨p, 3, none⟩ = some (.int .i64 count) from Ext.cell (w := wx) ⟨w3, unhide HW3⟩ (unhide T3)
      have d1 := fun n : Nat => show (w3.drewN n).cell? ⟨(y.br i).b, 1, none⟩ = some (.slice (some ⟨(y.br i).a, 0, none⟩) c.m c.m) from Ext.cell (w := wx) ⟨w3, unhide HW3⟩ (unhide D1)
      have e1 := fun n : Nat => show (w3.drewN n).cell? ⟨(y.br i).a, k, none⟩ = some (.int .i64 z) from Ext.cell (w := wx) ⟨w3, unhide HW3⟩ (unhide E1)
      refine wp_region_draw_tail 12 (by kernel_rfl) (by kernel_rfl) ?_
      simp only [List.take_succ_cons, List.take_zero, List.drop_succ_cons, List.drop_zero]
      repeat (go_big_quiet_step (fail))
      refine wpQuiet_nil ?_
      rintro _ ⟨nq, rfl⟩
      have HP4 := hide (((unhide HX).calm (unhide HW3)).calm (below_drewN (Below.refl _ w3) nq))
      have HK4 := hide ((unhide HK3).drewN nq)
      have HB4 := hide (show Below w.heap.size w (w3.drewN nq) from below_drewN ((unhide HBX).trans ((unhide HW3).mono (unhide HBX).size)) nq)
      have e2 := e1 nq
      clear r2 r3 d1 e1
      generalize w3.drewN nq = w4 at HP4 HK4 HB4 e2 ⊢
      have e3 : w4.frozen? ⟨(y.br i).a, k, none⟩ = false := IRow.frozen ((unhide HP4).pc (.ask i) hi).row k
      go_upto_region 11 with fail
      obtain ⟨ow5, hp5, hk5⟩ := PW.setAsk (unhide HP4) hi (unhide HKL) (z + count)
      have HP5 := hide hp5
      have HK5 := hide (hk5.blk (unhide HK4) (unhide HNQ))
      have HKK := hide ((Kept.calm (ow := ow) (unhide HB4)).trans hk5)
      have HN5 := hide (show ow5 q = .no from (hk5.old q (unhide HK4).lt).trans (unhide HNQ))
      clear hp5 hk5 e2 e3
      generalize w4.setCell ⟨(y.br i).a, k, none⟩ (.int .i64 (z + count)) = w5 at HP5 HK5 HKK ⊢
      obtain ⟨g0, g1, g2, g3, g4, g5, g6, g7, g8, g9, g10⟩ := tol_zero (unhide HK5)
      obtain ⟨f0, f1, f2, f3, f4, f5, f6, f7, f8, f9, f10⟩ := tol_free (unhide HK5)
      go_wp2_with fail
      change bodyPost _ _ _ _ _ (wrT w5 q (tol0 0 0))
      have k9 := wrT_blk (unhide HK5) rfl (tol0 0 0)
      have HO9 := hide (wrT_only w5 q (tol0 0 0))
      clear g0 g1 g2 g3 g4 g5 g6 g7 g8 g9 g10 f0 f1 f2 f3 f4 f5 f6 f7 f8 f9 f10
      generalize wrT w5 q (tol0 0 0) = w9 at k9 HO9 ⊢
      obtain ⟨d0, d1, d2, d3, d4, d5, d6, d7, d8, d9, d10⟩ := tol_cells k9
      refine bodyPost_ret (v := ((tol0 0 0)).val) (by simp [results, Tryd.results28, go_sem, d0, d1, d2, d3, d4, d5, d6, d7, d8, d9, d10, Tol.val]) rfl (stepPost_plain 0 (unhide HF) (Turned.mk_ (unhide HP5) (unhide HKK) (unhide HO9) (by rw [unhide HQ]; omega) (unhide HN5) (unhide HH).bw))
end
end
end Go.Proofs.YtbolcebmbpepdaaDoor
