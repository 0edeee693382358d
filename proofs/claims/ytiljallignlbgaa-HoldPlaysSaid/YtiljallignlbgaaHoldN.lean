/- Contract of a rack's order (the reference): confirming, cancelling, ticks; whole. Conditions: none beyond what each theorem states. (Written by wip/gen/rackorder.py.) -/
import Derived.Test.YtiljallignlbgaaHoldM
namespace Go.Proofs.Ytiljallignlbgaa
open Go.RowKit
set_option linter.unusedVariables false

theorem RkAt.left_ {w : World} {base g o q k c : Nat} {cs : Array Value} {r : Rk} {vc : Value} {x : Int × Int} (h : RkAt w base g o cs r vc (.slice (some ⟨q, 0, none⟩) r.rows.length c)) (hx : r.rows[k]? = some x) (v : Int) :
    RkAt (w.setCell ⟨q, k, none⟩ (.int .i64 v)) base g o cs { r with rows := r.rows.set k (x.1, v) } vc (.slice (some ⟨q, 0, none⟩) r.rows.length c) := by
  have hk := (List.getElem?_eq_some_iff.1 hx).1
  have e1 : (r.rows.set k (x.1, v)).map cntV = r.rows.map cntV := by
    apply List.ext_getElem?
    intro i
    rw [List.getElem?_map, List.getElem?_map, List.getElem?_set]
    by_cases hi : k = i
    · subst hi; rw [if_pos rfl, if_pos hk, hx]; rfl
    · rw [if_neg hi]
  have e2 : (r.rows.set k (x.1, v)).map lftV = (r.rows.map lftV).set k (.int .i64 v) := by rw [List.map_set]; rfl
  have hst := (h.ol.stored k (.int .i64 v)).1
  refine ⟨h.blk.far (p := ⟨q, k, none⟩) (fun e => h.nl (by rw [e]; rfl)) _, h.has, ?_, ?_, h.ne⟩
  · show World.ownsRow _ _ _ _ _ (r.rows.set k (x.1, v)).length ((r.rows.set k (x.1, v)).map cntV)
    rw [e1, List.length_set]
    refine World.ownsRow.kept h.oc (only_setCell (World.grownBy.refl w (some q)) (.inl rfl) _) ?_
    right
    intro e
    exact h.ne q e rfl
  · show World.ownsRow _ _ _ _ _ (r.rows.set k (x.1, v)).length ((r.rows.set k (x.1, v)).map lftV)
    rw [e2, List.length_set]
    exact hst

set_option maxRecDepth 100000 in
set_option maxHeartbeats 3000000 in
theorem rack4_none (base g o : Nat) (cs : Array Value) (r : Rk) (vc vl : Value) (w : World) (n life id : Int) (K : Nat) (h : RkAt w base g o cs r vc vl) (hs : r.ok K) (hK : K ≤ 1000000 - 1) (hB : base ≤ w.heap.size) (hid : id < 1 ∨ (r.rows.length : Int) < id) :
    Calls Try.prog 24 #[.pointer (some ⟨g, o, none⟩), (⟨4, n, life, id⟩ : Ordr).val] w (RkPost base g o cs vc vl w (r.order ⟨4, n, life, id⟩)) := by
  unfold Ordr.val
  dsimp only
  obtain ⟨wx, hwx⟩ : ∃ wx, wx = w.alloc (.cells #[.int .i64 4, .int .i64 n, .int .i64 life, .int .i64 id] 53) := ⟨_, rfl⟩
  have hbx : Below w.heap.size w wx := by rw [hwx]; exact (Below.refl _ _).alloc (Nat.le_refl _) _
  have k0 : Blk wx w.heap.size 53 #[.int .i64 4, .int .i64 n, .int .i64 life, .int .i64 id] := by rw [hwx]; exact Blk.new w 53 _
  have hx := h.calm hbx
  have q0 := k0.cell 0
  have q1 := k0.cell 1
  have q2 := k0.cell 2
  have q3 := k0.cell 3
  have c0 := hx.c0
  have c1 := hx.c1
  have q0a := q0
  have q1a := q1
  have q2a := q2
  have q3a := q3
  have c0a := c0
  have c1a := c1
  rw [hwx] at q0a q1a q2a q3a c0a c1a
  have hf0 := hs.free0
  have hu0 := hs.used0
  have hall := hs.all
  have hhb := heldR_bound hs.rows
  obtain ⟨hh0, _⟩ := hhb
  have hh1 : heldR r.rows ≤ 1048576 := by omega
  have hf1 : r.free ≤ 1048576 := by omega
  have hu1 : r.used ≤ 1048576 := by omega
  have hlen := hs.len
  have HX := hide hx
  have HBX := hide hbx
  have HWX := hide hwx
  have HS := hide hs
  have HK0 := hide k0
  have HLT := hide h.lt
  clear hx h hbx hs k0 hwx hall
  have HF := hide (show r.order ⟨4, n, life, id⟩ = (r, 0, 6) by
    unfold Rk.order
    simp [asksCount, hid])
  have hx2 := unhide HX
  obtain ⟨A2, cA2, hvc, hcA, _⟩ := hx2.cnt
  subst hvc
  obtain ⟨len, hlen2⟩ : ∃ len, len = r.rows.length := ⟨_, rfl⟩
  have HLEN := hide hlen2
  have c2 := hx2.c2
  rw [← hlen2] at c2 hid hlen
  clear hx2 hlen2
  by_cases h1 : id < 1
  · have hd0 : decide (id < 1) = true := decide_eq_true h1
    clear hid
    go_enter Try.func24, Try.ntmps24
    go_wp2_with fail
    rw [← unhide HWX]
    go_quiet (fail)
    go_wp2_with fail
    go_ret2
    rw [unhide HF]
    exact rkPost_same ((unhide HX).calm (below_drewN (Below.refl _ _) nq)) (below_drewN (unhide HBX) nq)
  · have hd0 : decide (id < 1) = false := decide_eq_false h1
    have h2 : (len : Int) < id := by omega
    clear hid
    go_enter Try.func24, Try.ntmps24
    go_wp2_with fail
    rw [← unhide HWX]
    go_quiet (fail)
    go_wp2_with fail
    go_ret2
    rw [unhide HF]
    exact rkPost_same ((unhide HX).calm (below_drewN (Below.refl _ _) nq)) (below_drewN (unhide HBX) nq)

set_option maxRecDepth 100000 in
set_option maxHeartbeats 3000000 in
theorem rack4_old (base g o : Nat) (cs : Array Value) (r : Rk) (vc vl : Value) (w : World) (n life : Int) (j : Nat) (x : Int × Int) (K : Nat) (h : RkAt w base g o cs r vc vl) (hs : r.ok K) (hK : K ≤ 1000000 - 1) (hB : base ≤ w.heap.size) (hx : r.rows[j]? = some x) (hx0 : x.2 = 0) :
    Calls Try.prog 24 #[.pointer (some ⟨g, o, none⟩), (⟨4, n, life, (j : Int) + 1⟩ : Ordr).val] w (RkPost base g o cs vc vl w (r.order ⟨4, n, life, (j : Int) + 1⟩)) := by
  unfold Ordr.val
  dsimp only
  obtain ⟨wx, hwx⟩ : ∃ wx, wx = w.alloc (.cells #[.int .i64 4, .int .i64 n, .int .i64 life, .int .i64 ((j : Int) + 1)] 53) := ⟨_, rfl⟩
  have hbx : Below w.heap.size w wx := by rw [hwx]; exact (Below.refl _ _).alloc (Nat.le_refl _) _
  have k0 : Blk wx w.heap.size 53 #[.int .i64 4, .int .i64 n, .int .i64 life, .int .i64 ((j : Int) + 1)] := by rw [hwx]; exact Blk.new w 53 _
  have hx := h.calm hbx
  have q0 := k0.cell 0
  have q1 := k0.cell 1
  have q2 := k0.cell 2
  have q3 := k0.cell 3
  have c0 := hx.c0
  have c1 := hx.c1
  have q0a := q0
  have q1a := q1
  have q2a := q2
  have q3a := q3
  have c0a := c0
  have c1a := c1
  rw [hwx] at q0a q1a q2a q3a c0a c1a
  have hf0 := hs.free0
  have hu0 := hs.used0
  have hall := hs.all
  have hhb := heldR_bound hs.rows
  obtain ⟨hh0, _⟩ := hhb
  have hh1 : heldR r.rows ≤ 1048576 := by omega
  have hf1 : r.free ≤ 1048576 := by omega
  have hu1 : r.used ≤ 1048576 := by omega
  have hlen := hs.len
  have HX := hide hx
  have HBX := hide hbx
  have HWX := hide hwx
  have HS := hide hs
  have HK0 := hide k0
  have HLT := hide h.lt
  clear hx h hbx hs k0 hwx hall
  have HF := hide (show r.order ⟨4, n, life, (j : Int) + 1⟩ = (r, 0, 10) by
    have hk := (List.getElem?_eq_some_iff.1 hx).1
    have hn0 : ¬ ((j : Int) + 1 < 1 ∨ (r.rows.length : Int) < (j : Int) + 1) := by omega
    unfold Rk.order
    have e : ((j : Int) + 1).toNat - 1 = j := by omega
    simp only [e, hx]
    simp [asksCount, hx0]
    omega)
  have hk := (List.getElem?_eq_some_iff.1 hx).1
  have hx2 := unhide HX
  obtain ⟨A2, cA2, hvc, hcA, hcnt⟩ := hx2.cnt
  obtain ⟨A3, cA3, hvl, hcA3, hlft⟩ := hx2.lft
  obtain ⟨qc, hA2, dc, fc⟩ := hcnt j x hx
  obtain ⟨ql, hA3, dl, fl⟩ := hlft j x hx
  subst hA2 hA3
  subst hvc hvl
  obtain ⟨len, hlen2⟩ : ∃ len, len = r.rows.length := ⟨_, rfl⟩
  have HLEN := hide hlen2
  have c2 := hx2.c2
  have c3 := hx2.c3
  rw [← hlen2] at c2 c3 hk hlen hcA hcA3
  have hxb := (unhide HS).rows x (List.mem_of_getElem? hx)
  obtain ⟨hxc0, hxc1, hxl0, hxl1⟩ := hxb
  have HXR := hide hx
  have hjl : (j : Int) < (len : Int) := by omega
  have hjl1 : (j : Int) + 1 ≤ (len : Int) := by omega
  have hd0 : decide ((j : Int) + 1 < 1) = false := decide_eq_false (by omega)
  have hd0' : decide ((j : Int) < 0) = false := decide_eq_false (by omega)
  clear hx2 hlen2 hcnt hlft hx
  rw [hx0] at dl
  clear hx0
  go_enter Try.func24, Try.ntmps24
  go_wp2_with fail
  rw [← unhide HWX]
  go_quiet (fail)
  go_wp2_with fail
  go_quiet (fail)
  go_wp2_with fail
  go_ret2
  rw [unhide HF]
  exact rkPost_same ((unhide HX).calm (below_drewN (below_drewN (Below.refl _ _) _) _)) (below_drewN (below_drewN (unhide HBX) _) _)

set_option maxRecDepth 100000 in
set_option maxHeartbeats 3000000 in
theorem rack4_ok (base g o : Nat) (cs : Array Value) (r : Rk) (vc vl : Value) (w : World) (n life : Int) (j : Nat) (x : Int × Int) (K : Nat) (h : RkAt w base g o cs r vc vl) (hs : r.ok K) (hK : K ≤ 1000000 - 1) (hB : base ≤ w.heap.size) (hx : r.rows[j]? = some x) (hx0 : 0 < x.2) :
    Calls Try.prog 24 #[.pointer (some ⟨g, o, none⟩), (⟨4, n, life, (j : Int) + 1⟩ : Ordr).val] w (RkPost base g o cs vc vl w (r.order ⟨4, n, life, (j : Int) + 1⟩)) := by
  unfold Ordr.val
  dsimp only
  obtain ⟨wx, hwx⟩ : ∃ wx, wx = w.alloc (.cells #[.int .i64 4, .int .i64 n, .int .i64 life, .int .i64 ((j : Int) + 1)] 53) := ⟨_, rfl⟩
  have hbx : Below w.heap.size w wx := by rw [hwx]; exact (Below.refl _ _).alloc (Nat.le_refl _) _
  have k0 : Blk wx w.heap.size 53 #[.int .i64 4, .int .i64 n, .int .i64 life, .int .i64 ((j : Int) + 1)] := by rw [hwx]; exact Blk.new w 53 _
  have hx := h.calm hbx
  have q0 := k0.cell 0
  have q1 := k0.cell 1
  have q2 := k0.cell 2
  have q3 := k0.cell 3
  have c0 := hx.c0
  have c1 := hx.c1
  have q0a := q0
  have q1a := q1
  have q2a := q2
  have q3a := q3
  have c0a := c0
  have c1a := c1
  rw [hwx] at q0a q1a q2a q3a c0a c1a
  have hf0 := hs.free0
  have hu0 := hs.used0
  have hall := hs.all
  have hhb := heldR_bound hs.rows
  obtain ⟨hh0, _⟩ := hhb
  have hh1 : heldR r.rows ≤ 1048576 := by omega
  have hf1 : r.free ≤ 1048576 := by omega
  have hu1 : r.used ≤ 1048576 := by omega
  have hlen := hs.len
  have HX := hide hx
  have HBX := hide hbx
  have HWX := hide hwx
  have HS := hide hs
  have HK0 := hide k0
  have HLT := hide h.lt
  clear hx h hbx hs k0 hwx hall
  have HF := hide (show r.order ⟨4, n, life, (j : Int) + 1⟩ = (⟨r.free, r.used + x.1, r.rows.set j (x.1, 0)⟩, 0, 0) by
    have hk := (List.getElem?_eq_some_iff.1 hx).1
    unfold Rk.order
    have e : ((j : Int) + 1).toNat - 1 = j := by omega
    simp only [e, hx]
    have h2 : ¬ x.2 = 0 := by omega
    have h3 : ¬ ((j : Int) + 1 < 1 ∨ (r.rows.length : Int) < (j : Int) + 1) := by omega
    simp [asksCount, h2]
    omega)
  have hk := (List.getElem?_eq_some_iff.1 hx).1
  have hx2 := unhide HX
  obtain ⟨A2, cA2, hvc, hcA, hcnt⟩ := hx2.cnt
  obtain ⟨A3, cA3, hvl, hcA3, hlft⟩ := hx2.lft
  obtain ⟨qc, hA2, dc, fc⟩ := hcnt j x hx
  obtain ⟨ql, hA3, dl, fl⟩ := hlft j x hx
  subst hA2 hA3
  subst hvc hvl
  obtain ⟨len, hlen2⟩ : ∃ len, len = r.rows.length := ⟨_, rfl⟩
  have HLEN := hide hlen2
  have c2 := hx2.c2
  have c3 := hx2.c3
  rw [← hlen2] at c2 c3 hk hlen hcA hcA3
  have hxb := (unhide HS).rows x (List.mem_of_getElem? hx)
  obtain ⟨hxc0, hxc1, hxl0, hxl1⟩ := hxb
  have HXR := hide hx
  have hjl : (j : Int) < (len : Int) := by omega
  have hjl1 : (j : Int) + 1 ≤ (len : Int) := by omega
  have hd0 : decide ((j : Int) + 1 < 1) = false := decide_eq_false (by omega)
  have hd0' : decide ((j : Int) < 0) = false := decide_eq_false (by omega)
  clear hx2 hlen2 hcnt hlft hx
  have hb0 : (x.2 == 0) = false := by simp; omega
  go_enter Try.func24, Try.ntmps24
  go_wp2_with fail
  rw [← unhide HWX]
  go_quiet (fail)
  obtain ⟨na, rfl⟩ : ∃ m, m = nq := ⟨_, rfl⟩
  go_wp2_with fail
  go_quiet (fail)
  go_wp2_with fail
  clear q0a q1a q2a q3a c0a c1a
  have hq3 : ¬ ql = w.heap.size := by have := unhide HLT ql (.inr (.inr rfl)); omega
  have hq3g : ¬ ql = g := fun e => (unhide HX).nl (by rw [e]; rfl)
  have hq2 : ¬ qc = w.heap.size := by have := unhide HLT qc (.inr (.inl rfl)); omega
  refine wp_region_draw_tail 8 (by kernel_rfl) (by kernel_rfl) ?_
  simp only [List.take_succ_cons, List.take_zero, List.drop_succ_cons, List.drop_zero]
  repeat (go_big_quiet_step (fail))
  refine wpQuiet_nil ?_
  rintro _ ⟨nq2, rfl⟩
  go_wp2_with fail
  obtain ⟨w2, hw2⟩ : ∃ w2, w2 = (((wx.drewN na).drewN nq).drewN nq2).setCell ⟨ql, j, none⟩ (.int .i64 0) := ⟨_, rfl⟩
  have hx2 := RkAt.left_ ((unhide HX).calm (below_drewN (below_drewN (below_drewN (Below.refl _ _) na) nq) nq2)) (unhide HXR) 0
  rw [← hw2] at hx2
  have hO2 : Only (fun k => k = ql) wx w2 := by rw [hw2]; exact only_put ((((Only.refl _ wx).drewN na).drewN nq).drewN nq2) _ _
  have k2 := (unhide HK0).only hO2 (fun e => by have := unhide HLT ql (.inr (.inr rfl)); omega)
  have d1 := hx2.c1
  have d2 := hx2.c2
  have hqq : qc ≠ ql := fun e => (unhide HX).ne qc rfl (by rw [e]; rfl)
  have dc2 : w2.cell? ⟨qc, j, none⟩ = some (.int .i64 x.1) := by
    rw [hw2]
    exact (World.cell?_setCell_other _ ⟨ql, j, none⟩ ⟨qc, j, none⟩ _ (fun e => hqq (by injection e with e; exact e.symm))).trans dc
  have f1 := hx2.fr (o + 1)
  have p0 := k2.cell 0
  have p3 := k2.cell 3
  rw [← unhide HLEN] at d2
  have HX2 := hide hx2
  have HO2 := hide hO2
  first | rw [← hw2] | (simp only [World.drewN_drewN] at hw2; rw [← hw2])
  dsimp only at d1 d2 p0 p3
  clear hx2 hO2 k2 hw2 c0 c1 q0 q1 q2 q3 dc dl fl fc c2 c3 hqq
  go_wp2_with fail
  refine wp_region_draw_tail 16 (by kernel_rfl) (by kernel_rfl) ?_
  simp only [List.take_succ_cons, List.take_zero, List.drop_succ_cons, List.drop_zero]
  repeat (go_big_quiet_step (fail))
  refine wpQuiet_nil ?_
  rintro _ ⟨nq3, rfl⟩
  go_wp2_with fail
  go_ret2
  rw [unhide HF]
  have hfin := RkAt.used_ ((unhide HX2).calm (below_drewN (Below.refl _ _) nq3)) (r.used + x.1)
  refine ⟨.slice (some ⟨qc, 0, none⟩) r.rows.length cA2, .slice (some ⟨ql, 0, none⟩) r.rows.length cA3, rfl, hfin, ?_, fun k hk => .inl hk⟩
  have h1 : Only (RkD g (.slice (some ⟨qc, 0, none⟩) r.rows.length cA2) (.slice (some ⟨ql, 0, none⟩) r.rows.length cA3)) w wx := Only.of_below (unhide HBX) fun x hx hB => by omega
  exact Only.setCell ((h1.trans (unhide HO2) (fun x _ h => .inr (.inr (by rw [h]; rfl)))).drewN nq3) (fun _ => .inl rfl) _

set_option maxRecDepth 100000 in
set_option maxHeartbeats 3000000 in
theorem rack5_none (base g o : Nat) (cs : Array Value) (r : Rk) (vc vl : Value) (w : World) (n life id : Int) (K : Nat) (h : RkAt w base g o cs r vc vl) (hs : r.ok K) (hK : K ≤ 1000000 - 1) (hB : base ≤ w.heap.size) (hid : id < 1 ∨ (r.rows.length : Int) < id) :
    Calls Try.prog 24 #[.pointer (some ⟨g, o, none⟩), (⟨5, n, life, id⟩ : Ordr).val] w (RkPost base g o cs vc vl w (r.order ⟨5, n, life, id⟩)) := by
  unfold Ordr.val
  dsimp only
  obtain ⟨wx, hwx⟩ : ∃ wx, wx = w.alloc (.cells #[.int .i64 5, .int .i64 n, .int .i64 life, .int .i64 id] 53) := ⟨_, rfl⟩
  have hbx : Below w.heap.size w wx := by rw [hwx]; exact (Below.refl _ _).alloc (Nat.le_refl _) _
  have k0 : Blk wx w.heap.size 53 #[.int .i64 5, .int .i64 n, .int .i64 life, .int .i64 id] := by rw [hwx]; exact Blk.new w 53 _
  have hx := h.calm hbx
  have q0 := k0.cell 0
  have q1 := k0.cell 1
  have q2 := k0.cell 2
  have q3 := k0.cell 3
  have c0 := hx.c0
  have c1 := hx.c1
  have q0a := q0
  have q1a := q1
  have q2a := q2
  have q3a := q3
  have c0a := c0
  have c1a := c1
  rw [hwx] at q0a q1a q2a q3a c0a c1a
  have hf0 := hs.free0
  have hu0 := hs.used0
  have hall := hs.all
  have hhb := heldR_bound hs.rows
  obtain ⟨hh0, _⟩ := hhb
  have hh1 : heldR r.rows ≤ 1048576 := by omega
  have hf1 : r.free ≤ 1048576 := by omega
  have hu1 : r.used ≤ 1048576 := by omega
  have hlen := hs.len
  have HX := hide hx
  have HBX := hide hbx
  have HWX := hide hwx
  have HS := hide hs
  have HK0 := hide k0
  have HLT := hide h.lt
  clear hx h hbx hs k0 hwx hall
  have HF := hide (show r.order ⟨5, n, life, id⟩ = (r, 0, 6) by
    unfold Rk.order
    simp [asksCount, hid])
  have hx2 := unhide HX
  obtain ⟨A2, cA2, hvc, hcA, _⟩ := hx2.cnt
  subst hvc
  obtain ⟨len, hlen2⟩ : ∃ len, len = r.rows.length := ⟨_, rfl⟩
  have HLEN := hide hlen2
  have c2 := hx2.c2
  rw [← hlen2] at c2 hid hlen
  clear hx2 hlen2
  by_cases h1 : id < 1
  · have hd0 : decide (id < 1) = true := decide_eq_true h1
    clear hid
    go_enter Try.func24, Try.ntmps24
    go_wp2_with fail
    rw [← unhide HWX]
    go_quiet (fail)
    go_wp2_with fail
    go_ret2
    rw [unhide HF]
    exact rkPost_same ((unhide HX).calm (below_drewN (Below.refl _ _) nq)) (below_drewN (unhide HBX) nq)
  · have hd0 : decide (id < 1) = false := decide_eq_false h1
    have h2 : (len : Int) < id := by omega
    clear hid
    go_enter Try.func24, Try.ntmps24
    go_wp2_with fail
    rw [← unhide HWX]
    go_quiet (fail)
    go_wp2_with fail
    go_ret2
    rw [unhide HF]
    exact rkPost_same ((unhide HX).calm (below_drewN (Below.refl _ _) nq)) (below_drewN (unhide HBX) nq)

set_option maxRecDepth 100000 in
set_option maxHeartbeats 3000000 in
theorem rack5_old (base g o : Nat) (cs : Array Value) (r : Rk) (vc vl : Value) (w : World) (n life : Int) (j : Nat) (x : Int × Int) (K : Nat) (h : RkAt w base g o cs r vc vl) (hs : r.ok K) (hK : K ≤ 1000000 - 1) (hB : base ≤ w.heap.size) (hx : r.rows[j]? = some x) (hx0 : x.2 = 0) :
    Calls Try.prog 24 #[.pointer (some ⟨g, o, none⟩), (⟨5, n, life, (j : Int) + 1⟩ : Ordr).val] w (RkPost base g o cs vc vl w (r.order ⟨5, n, life, (j : Int) + 1⟩)) := by
  unfold Ordr.val
  dsimp only
  obtain ⟨wx, hwx⟩ : ∃ wx, wx = w.alloc (.cells #[.int .i64 5, .int .i64 n, .int .i64 life, .int .i64 ((j : Int) + 1)] 53) := ⟨_, rfl⟩
  have hbx : Below w.heap.size w wx := by rw [hwx]; exact (Below.refl _ _).alloc (Nat.le_refl _) _
  have k0 : Blk wx w.heap.size 53 #[.int .i64 5, .int .i64 n, .int .i64 life, .int .i64 ((j : Int) + 1)] := by rw [hwx]; exact Blk.new w 53 _
  have hx := h.calm hbx
  have q0 := k0.cell 0
  have q1 := k0.cell 1
  have q2 := k0.cell 2
  have q3 := k0.cell 3
  have c0 := hx.c0
  have c1 := hx.c1
  have q0a := q0
  have q1a := q1
  have q2a := q2
  have q3a := q3
  have c0a := c0
  have c1a := c1
  rw [hwx] at q0a q1a q2a q3a c0a c1a
  have hf0 := hs.free0
  have hu0 := hs.used0
  have hall := hs.all
  have hhb := heldR_bound hs.rows
  obtain ⟨hh0, _⟩ := hhb
  have hh1 : heldR r.rows ≤ 1048576 := by omega
  have hf1 : r.free ≤ 1048576 := by omega
  have hu1 : r.used ≤ 1048576 := by omega
  have hlen := hs.len
  have HX := hide hx
  have HBX := hide hbx
  have HWX := hide hwx
  have HS := hide hs
  have HK0 := hide k0
  have HLT := hide h.lt
  clear hx h hbx hs k0 hwx hall
  have HF := hide (show r.order ⟨5, n, life, (j : Int) + 1⟩ = (r, 0, 10) by
    have hk := (List.getElem?_eq_some_iff.1 hx).1
    have hn0 : ¬ ((j : Int) + 1 < 1 ∨ (r.rows.length : Int) < (j : Int) + 1) := by omega
    unfold Rk.order
    have e : ((j : Int) + 1).toNat - 1 = j := by omega
    simp only [e, hx]
    simp [asksCount, hx0]
    omega)
  have hk := (List.getElem?_eq_some_iff.1 hx).1
  have hx2 := unhide HX
  obtain ⟨A2, cA2, hvc, hcA, hcnt⟩ := hx2.cnt
  obtain ⟨A3, cA3, hvl, hcA3, hlft⟩ := hx2.lft
  obtain ⟨qc, hA2, dc, fc⟩ := hcnt j x hx
  obtain ⟨ql, hA3, dl, fl⟩ := hlft j x hx
  subst hA2 hA3
  subst hvc hvl
  obtain ⟨len, hlen2⟩ : ∃ len, len = r.rows.length := ⟨_, rfl⟩
  have HLEN := hide hlen2
  have c2 := hx2.c2
  have c3 := hx2.c3
  rw [← hlen2] at c2 c3 hk hlen hcA hcA3
  have hxb := (unhide HS).rows x (List.mem_of_getElem? hx)
  obtain ⟨hxc0, hxc1, hxl0, hxl1⟩ := hxb
  have HXR := hide hx
  have hjl : (j : Int) < (len : Int) := by omega
  have hjl1 : (j : Int) + 1 ≤ (len : Int) := by omega
  have hd0 : decide ((j : Int) + 1 < 1) = false := decide_eq_false (by omega)
  have hd0' : decide ((j : Int) < 0) = false := decide_eq_false (by omega)
  clear hx2 hlen2 hcnt hlft hx
  rw [hx0] at dl
  clear hx0
  go_enter Try.func24, Try.ntmps24
  go_wp2_with fail
  rw [← unhide HWX]
  go_quiet (fail)
  go_wp2_with fail
  go_quiet (fail)
  go_wp2_with fail
  go_ret2
  rw [unhide HF]
  exact rkPost_same ((unhide HX).calm (below_drewN (below_drewN (Below.refl _ _) _) _)) (below_drewN (below_drewN (unhide HBX) _) _)

set_option maxRecDepth 100000 in
set_option maxHeartbeats 3000000 in
theorem rack5_ok (base g o : Nat) (cs : Array Value) (r : Rk) (vc vl : Value) (w : World) (n life : Int) (j : Nat) (x : Int × Int) (K : Nat) (h : RkAt w base g o cs r vc vl) (hs : r.ok K) (hK : K ≤ 1000000 - 1) (hB : base ≤ w.heap.size) (hx : r.rows[j]? = some x) (hx0 : 0 < x.2) :
    Calls Try.prog 24 #[.pointer (some ⟨g, o, none⟩), (⟨5, n, life, (j : Int) + 1⟩ : Ordr).val] w (RkPost base g o cs vc vl w (r.order ⟨5, n, life, (j : Int) + 1⟩)) := by
  unfold Ordr.val
  dsimp only
  obtain ⟨wx, hwx⟩ : ∃ wx, wx = w.alloc (.cells #[.int .i64 5, .int .i64 n, .int .i64 life, .int .i64 ((j : Int) + 1)] 53) := ⟨_, rfl⟩
  have hbx : Below w.heap.size w wx := by rw [hwx]; exact (Below.refl _ _).alloc (Nat.le_refl _) _
  have k0 : Blk wx w.heap.size 53 #[.int .i64 5, .int .i64 n, .int .i64 life, .int .i64 ((j : Int) + 1)] := by rw [hwx]; exact Blk.new w 53 _
  have hx := h.calm hbx
  have q0 := k0.cell 0
  have q1 := k0.cell 1
  have q2 := k0.cell 2
  have q3 := k0.cell 3
  have c0 := hx.c0
  have c1 := hx.c1
  have q0a := q0
  have q1a := q1
  have q2a := q2
  have q3a := q3
  have c0a := c0
  have c1a := c1
  rw [hwx] at q0a q1a q2a q3a c0a c1a
  have hf0 := hs.free0
  have hu0 := hs.used0
  have hall := hs.all
  have hhb := heldR_bound hs.rows
  obtain ⟨hh0, _⟩ := hhb
  have hh1 : heldR r.rows ≤ 1048576 := by omega
  have hf1 : r.free ≤ 1048576 := by omega
  have hu1 : r.used ≤ 1048576 := by omega
  have hlen := hs.len
  have HX := hide hx
  have HBX := hide hbx
  have HWX := hide hwx
  have HS := hide hs
  have HK0 := hide k0
  have HLT := hide h.lt
  clear hx h hbx hs k0 hwx hall
  have HF := hide (show r.order ⟨5, n, life, (j : Int) + 1⟩ = (⟨r.free + x.1, r.used, r.rows.set j (x.1, 0)⟩, 0, 0) by
    have hk := (List.getElem?_eq_some_iff.1 hx).1
    unfold Rk.order
    have e : ((j : Int) + 1).toNat - 1 = j := by omega
    simp only [e, hx]
    have h2 : ¬ x.2 = 0 := by omega
    have h3 : ¬ ((j : Int) + 1 < 1 ∨ (r.rows.length : Int) < (j : Int) + 1) := by omega
    simp [asksCount, h2]
    omega)
  have hk := (List.getElem?_eq_some_iff.1 hx).1
  have hx2 := unhide HX
  obtain ⟨A2, cA2, hvc, hcA, hcnt⟩ := hx2.cnt
  obtain ⟨A3, cA3, hvl, hcA3, hlft⟩ := hx2.lft
  obtain ⟨qc, hA2, dc, fc⟩ := hcnt j x hx
  obtain ⟨ql, hA3, dl, fl⟩ := hlft j x hx
  subst hA2 hA3
  subst hvc hvl
  obtain ⟨len, hlen2⟩ : ∃ len, len = r.rows.length := ⟨_, rfl⟩
  have HLEN := hide hlen2
  have c2 := hx2.c2
  have c3 := hx2.c3
  rw [← hlen2] at c2 c3 hk hlen hcA hcA3
  have hxb := (unhide HS).rows x (List.mem_of_getElem? hx)
  obtain ⟨hxc0, hxc1, hxl0, hxl1⟩ := hxb
  have HXR := hide hx
  have hjl : (j : Int) < (len : Int) := by omega
  have hjl1 : (j : Int) + 1 ≤ (len : Int) := by omega
  have hd0 : decide ((j : Int) + 1 < 1) = false := decide_eq_false (by omega)
  have hd0' : decide ((j : Int) < 0) = false := decide_eq_false (by omega)
  clear hx2 hlen2 hcnt hlft hx
  have hb0 : (x.2 == 0) = false := by simp; omega
  go_enter Try.func24, Try.ntmps24
  go_wp2_with fail
  rw [← unhide HWX]
  go_quiet (fail)
  obtain ⟨na, rfl⟩ : ∃ m, m = nq := ⟨_, rfl⟩
  go_wp2_with fail
  go_quiet (fail)
  go_wp2_with fail
  clear q0a q1a q2a q3a c0a c1a
  have hq3 : ¬ ql = w.heap.size := by have := unhide HLT ql (.inr (.inr rfl)); omega
  have hq3g : ¬ ql = g := fun e => (unhide HX).nl (by rw [e]; rfl)
  have hq2 : ¬ qc = w.heap.size := by have := unhide HLT qc (.inr (.inl rfl)); omega
  refine wp_region_draw_tail 8 (by kernel_rfl) (by kernel_rfl) ?_
  simp only [List.take_succ_cons, List.take_zero, List.drop_succ_cons, List.drop_zero]
  repeat (go_big_quiet_step (fail))
  refine wpQuiet_nil ?_
  rintro _ ⟨nq2, rfl⟩
  go_wp2_with fail
  obtain ⟨w2, hw2⟩ : ∃ w2, w2 = (((wx.drewN na).drewN nq).drewN nq2).setCell ⟨ql, j, none⟩ (.int .i64 0) := ⟨_, rfl⟩
  have hx2 := RkAt.left_ ((unhide HX).calm (below_drewN (below_drewN (below_drewN (Below.refl _ _) na) nq) nq2)) (unhide HXR) 0
  rw [← hw2] at hx2
  have hO2 : Only (fun k => k = ql) wx w2 := by rw [hw2]; exact only_put ((((Only.refl _ wx).drewN na).drewN nq).drewN nq2) _ _
  have k2 := (unhide HK0).only hO2 (fun e => by have := unhide HLT ql (.inr (.inr rfl)); omega)
  have d1 := hx2.c0
  have d2 := hx2.c2
  have hqq : qc ≠ ql := fun e => (unhide HX).ne qc rfl (by rw [e]; rfl)
  have dc2 : w2.cell? ⟨qc, j, none⟩ = some (.int .i64 x.1) := by
    rw [hw2]
    exact (World.cell?_setCell_other _ ⟨ql, j, none⟩ ⟨qc, j, none⟩ _ (fun e => hqq (by injection e with e; exact e.symm))).trans dc
  have f1 := hx2.fr (o)
  have p0 := k2.cell 0
  have p3 := k2.cell 3
  rw [← unhide HLEN] at d2
  have HX2 := hide hx2
  have HO2 := hide hO2
  first | rw [← hw2] | (simp only [World.drewN_drewN] at hw2; rw [← hw2])
  dsimp only at d1 d2 p0 p3
  clear hx2 hO2 k2 hw2 c0 c1 q0 q1 q2 q3 dc dl fl fc c2 c3 hqq
  go_wp2_with fail
  refine wp_region_draw_tail 16 (by kernel_rfl) (by kernel_rfl) ?_
  simp only [List.take_succ_cons, List.take_zero, List.drop_succ_cons, List.drop_zero]
  repeat (go_big_quiet_step (fail))
  refine wpQuiet_nil ?_
  rintro _ ⟨nq3, rfl⟩
  go_wp2_with fail
  go_ret2
  rw [unhide HF]
  have hfin := RkAt.free_ ((unhide HX2).calm (below_drewN (Below.refl _ _) nq3)) (r.free + x.1)
  refine ⟨.slice (some ⟨qc, 0, none⟩) r.rows.length cA2, .slice (some ⟨ql, 0, none⟩) r.rows.length cA3, rfl, hfin, ?_, fun k hk => .inl hk⟩
  have h1 : Only (RkD g (.slice (some ⟨qc, 0, none⟩) r.rows.length cA2) (.slice (some ⟨ql, 0, none⟩) r.rows.length cA3)) w wx := Only.of_below (unhide HBX) fun x hx hB => by omega
  exact Only.setCell ((h1.trans (unhide HO2) (fun x _ h => .inr (.inr (by rw [h]; rfl)))).drewN nq3) (fun _ => .inl rfl) _
end Go.Proofs.Ytiljallignlbgaa
