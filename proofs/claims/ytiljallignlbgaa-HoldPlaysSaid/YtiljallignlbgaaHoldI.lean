/- Contract of a shelf's Do. Conditions: none beyond what each theorem states. -/
import Derived.Test.YtiljallignlbgaaHoldH
namespace Go.Proofs.Ytiljallignlbgaa
open Go.RowKit
set_option linter.unusedVariables false

theorem order_any (base g o : Nat) (cs : Array Value) (s : Shf) (v : Value) (w : World) (od : Ordr) (K : Int) (h : ShAt w base g o cs s v) (hs : s.ok K) (hK : K ≤ 1000000) (hB : base ≤ w.heap.size) :
    Calls Try.prog 22 #[.pointer (some ⟨g, o, none⟩), od.val] w (ShPost base g o cs v w (s.order od)) := by
  obtain ⟨k, n, life, id⟩ := od
  by_cases hk : k < 1 ∨ 7 < k
  · exact order_kind base g o cs s v w k n life id K h hs hK hB hk
  have hk' : k = 1 ∨ k = 2 ∨ k = 3 ∨ k = 4 ∨ k = 5 ∨ k = 6 ∨ k = 7 := by omega
  by_cases hn : n < 1 ∨ 1048576 < n
  · rcases hk' with rfl | rfl | rfl | rfl | rfl | rfl | rfl
    · exact order1_bad base g o cs s v w n life id K h hs hK hB hn
    · exact order2_bad base g o cs s v w n life id K h hs hK hB hn
    · exact order3_bad base g o cs s v w n life id K h hs hK hB hn
    · exact order4 base g o cs s v w n life id K h hs hK hB
    · exact order5 base g o cs s v w n life id K h hs hK hB
    · exact order6_bad base g o cs s v w n life id K h hs hK hB hn
    · exact order7 base g o cs s v w n life id K h hs hK hB
  have h1 : 1 ≤ n := by omega
  have h2 : n ≤ 1048576 := by omega
  rcases hk' with rfl | rfl | rfl | rfl | rfl | rfl | rfl
  · by_cases hov : 1048576 < s.free + heldL s.opn + s.used + n
    · exact order1_over base g o cs s v w n life id K h hs hK hB h1 h2 hov
    · exact order1_ok base g o cs s v w n life id K h hs hK hB h1 h2 (by omega)
  · by_cases hls : s.free < n
    · exact order2_less base g o cs s v w n life id K h hs hK hB h1 h2 hls
    · exact order2_ok base g o cs s v w n life id K h hs hK hB h1 h2 (by omega)
  · exact order3 base g o cs s v w n life id K h hs hK hB h1 h2
  · exact order4 base g o cs s v w n life id K h hs hK hB
  · exact order5 base g o cs s v w n life id K h hs hK hB
  · by_cases hls : s.used < n
    · exact order6_less base g o cs s v w n life id K h hs hK hB h1 h2 hls
    · exact order6_ok base g o cs s v w n life id K h hs hK hB h1 h2 (by omega)
  · exact order7 base g o cs s v w n life id K h hs hK hB

/-- what Do comes to -/
def DoPost (base g o : Nat) (cs : Array Value) (v : Value) (w : World) (r : Shf × Stk) (e : Ending) (w' : World) : Prop :=
  ∃ v', e = .returned r.2.val ∧ ShAt w' base g o (putAt cs o (r.1.cells v')) r.1 v' ∧ Only (fun k => k = g ∨ v.ownBlock = some k) w w' ∧ (∀ k, v'.ownBlock = some k → v.ownBlock = some k ∨ w.heap.size ≤ k)

set_option maxRecDepth 100000 in
set_option maxHeartbeats 2000000 in
theorem shelfDo_any (base g o : Nat) (cs : Array Value) (s : Shf) (v : Value) (w : World) (od : Ordr) (K : Int) (h : ShAt w base g o cs s v) (hs : s.ok K) (hK : K ≤ 1000000 - 1) (hB : base ≤ w.heap.size) :
    Calls Try.prog 14 #[.pointer (some ⟨g, o, none⟩), od.val] w (DoPost base g o cs v w (s.does od)) := by
  obtain ⟨wx, hwx⟩ : ∃ wx, wx = (w.alloc (.cells od.cells.toArray 53)).alloc (.cells #[.int .i64 0, .int .i64 0, .int .i64 0, .int .i64 0, .int .i64 0] 28) := ⟨_, rfl⟩
  have hbx : Below w.heap.size w wx := by rw [hwx]; exact ((Below.refl _ _).alloc (Nat.le_refl _) _).alloc (by simp) _
  have k0 : Blk wx w.heap.size 53 od.cells.toArray := by rw [hwx]; exact (Blk.new w 53 _).alloc _
  have k1 : Blk wx (w.heap.size + 1) 28 #[.int .i64 0, .int .i64 0, .int .i64 0, .int .i64 0, .int .i64 0] := by
    have h := Blk.new (w.alloc (.cells od.cells.toArray 53)) 28 #[.int .i64 0, .int .i64 0, .int .i64 0, .int .i64 0, .int .i64 0]
    rw [hwx]
    simpa using h
  have hx := h.calm hbx
  have HO := hide (order_any base g o cs s v wx od K hx hs (by omega) (Nat.le_trans hB hbx.size))
  have hgw : g < w.heap.size := h.blk.lt
  have hvw : ∀ k, v.ownBlock = some k → k < w.heap.size := fun k hk => (h.own.lt k hk).2
  have HVW := hide hvw
  have hs2 := order_ok hs od
  have HS2 := hide hs2
  have hll := hs2.len
  have HDO := hide (show s.does od = ((s.order od).1, (s.order od).1.stock (s.order od).2.1 (s.order od).2.2) from rfl)
  obtain ⟨r, hr⟩ : ∃ r, r = s.order od := ⟨_, rfl⟩
  rw [← hr] at HO HS2 hll HDO
  obtain ⟨s2, rid, rc⟩ := r
  dsimp only at HS2 hll HDO
  have HK1 := hide k1
  have HBX := hide hbx
  obtain ⟨ok, on, ol, oi⟩ := od
  unfold Ordr.val at HO ⊢
  dsimp only at HO ⊢
  unfold Ordr.cells at k0 hwx
  dsimp only at k0 hwx
  have q0 := k0.cell 0
  have q1 := k0.cell 1
  have q2 := k0.cell 2
  have q3 := k0.cell 3
  rw [hwx] at q0 q1 q2 q3
  have HWX := hide hwx
  clear hx h hbx hs k0 k1 hwx hs2 hr hvw
  go_enter Try.func14, Try.ntmps14
  go_wp2_with fail
  rw [← unhide HWX]
  clear q0 q1 q2 q3
  refine (unhide HO).mono ?_
  rintro _ w2 ⟨v2, rfl, hx2, ho2, ha2⟩
  have hn1 : ∀ k, w.heap.size ≤ k → ¬ (k = g ∨ v.ownBlock = some k) := fun k hk hc => by
    rcases hc with rfl | hc
    · omega
    · have := unhide HVW k hc; omega
  have k2 := (unhide HK1).only ho2 (hn1 _ (by omega))
  have HST := hide (shelfStock_any base g o _ s2 v2 w2 hx2 (by omega) (fun x hx => by have := (unhide HS2).each x hx; omega))
  have HX2 := hide hx2
  have HO2 := hide ho2
  have HA2 := hide ha2
  have HK2 := hide k2
  unfold Shf.stock Stk.val at HST
  dsimp only at HST
  clear hx2 ho2 ha2 k2 hn1
  go_wp2_with fail
  refine (unhide HST).mono ?_
  rintro _ w3 ⟨rfl, hb3⟩
  have k3 := (unhide HK2).below hb3 (unhide HK2).lt
  have d0 := k3.cell 0
  have d1 := k3.cell 1
  have d2 := k3.cell 2
  have d3 := k3.cell 3
  have d4 := k3.cell 4
  have f0 := k3.frozen 0
  have f1 := k3.frozen 1
  have f2 := k3.frozen 2
  have f3 := k3.frozen 3
  have f4 := k3.frozen 4
  have hlt3 := k3.lt
  have HK3 := hide k3
  have key : ∀ WF, Only (fun k => k = w.heap.size + 1) w3 WF → DoPost base g o cs v w (s.does ⟨ok, on, ol, oi⟩) (.returned (s2.stock rid rc).val) WF := by
    intro WF hF
    rw [unhide HDO]
    have hg3 : w2.heap.size ≤ w3.heap.size := hb3.size
    have hx3 := (unhide HX2).calm hb3
    have hsx : wx.heap.size = w.heap.size + 2 := by rw [unhide HWX]; simp
    refine ⟨v2, rfl, hx3.only hF (by omega) (fun k hk e => ?_), ?_, fun k hk => ?_⟩
    · rcases unhide HA2 k hk with h1 | h1
      · have := unhide HVW k h1; omega
      · omega
    · have h1 : Only (fun k => k = g ∨ v.ownBlock = some k) w wx := Only.of_below (unhide HBX) fun x hx hB => by omega
      exact ((h1.trans (unhide HO2) (fun x _ h => h)).calm hb3).trans hF (fun x hx h => by omega)
    · rcases unhide HA2 k hk with h1 | h1
      · exact .inl h1
      · exact .inr (by omega)
  have KEY := hide key
  clear hb3 k3 key
  go_wp2_with fail
  obtain ⟨w5, hw5⟩ : ∃ w5, w5 = ((((w3.setCell ⟨w.heap.size + 1, 0, none⟩ (.int .i64 rc)).setCell ⟨w.heap.size + 1, 1, none⟩ (.int .i64 rid)).setCell ⟨w.heap.size + 1, 2, none⟩ (.int .i64 s2.free)).setCell ⟨w.heap.size + 1, 3, none⟩ (.int .i64 (heldL s2.opn))).setCell ⟨w.heap.size + 1, 4, none⟩ (.int .i64 s2.used) := ⟨_, rfl⟩
  have hO5 : Only (fun k => k = w.heap.size + 1) w3 w5 := by rw [hw5]; exact only_put (only_put (only_put (only_put (only_put (Only.refl _ _) _ _) _ _) _ _) _ _) _ _
  have k5 : Blk w5 (w.heap.size + 1) 28 #[.int .i64 rc, .int .i64 rid, .int .i64 s2.free, .int .i64 (heldL s2.opn), .int .i64 s2.used] := by
    rw [hw5]
    exact (((((unhide HK3).set_ 0 _).set_ 1 _).set_ 2 _).set_ 3 _).set_ 4 _
  rw [← hw5]
  have k6 := k5.alloc (.cells #[.int .i64 rc, .int .i64 rid, .int .i64 s2.free, .int .i64 (heldL s2.opn), .int .i64 s2.used] 28)
  have z0 := k6.cell 0
  have z1 := k6.cell 1
  have z2 := k6.cell 2
  have z3 := k6.cell 3
  have z4 := k6.cell 4
  have HO5 := hide hO5
  clear hO5 k5 k6 hw5 d0 d1 d2 d3 d4 f0 f1 f2 f3 f4
  refine bodyPost_ret (v := (s2.stock rid rc).val) (by simp [results, Try.results14, go_sem, z0, z1, z2, z3, z4]; rfl) rfl (unhide KEY _ ((unhide HO5).alloc _))
end Go.Proofs.Ytiljallignlbgaa
