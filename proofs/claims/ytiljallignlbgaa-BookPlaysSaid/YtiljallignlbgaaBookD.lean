/- book.Book: one call. Conditions: none beyond what each theorem states. -/
import Derived.Test.YtiljallignlbgaaBookC
namespace Go.Proofs.Ytiljallignlbgaa
open Go.RowKit
set_option linter.unusedVariables false

def CallD.cells (c : CallD) : List Value := [.int .i64 c.kind, .int .i64 c.who, .int .i64 c.count]
theorem CallD.cells_len (c : CallD) : c.cells.length = 3 := rfl
def CallD.val (c : CallD) : Value := .agg #[.int .i64 c.kind, .int .i64 c.who, .int .i64 c.count]
def RulPost (w : World) (base nb : Nat) (p : BkL) (most ticks : Int) (r : BkS × RulD) (e : Ending) (w' : World) : Prop :=
  ∃ (p' : BkL) (A : Option Addr) (n c : Nat), e = .returned (.agg #[.int .i64 r.2.code, .slice A n c, .int .i64 r.2.report]) ∧ w'.ownsRow w.heap.size 3 1 (.slice A n c) n (r.2.grants.map (.int .i64)) ∧ BkAt w' base nb p' most ticks r.1 ∧
    (∀ k, p'.has k → p.has k ∨ w.heap.size ≤ k) ∧ p'.g = p.g ∧ Only p.has w w' ∧ (∀ q, (Value.slice A n c).ownBlock = some q → ¬ p'.has q)
theorem rul_fin {w W WF : World} {base nb n c b : Nat} {p p' : BkL} {most ticks : Int} {r : BkS × RulD} {A : Option Addr} {cs : Array Value} (hx : BkAt W base nb p' most ticks r.1) (hp : ∀ k, p'.has k → p.has k ∨ w.heap.size ≤ k) (hg : p'.g = p.g) (hrow : W.ownsRow w.heap.size 3 1 (.slice A n c) n (r.2.grants.map (.int .i64)))
    (hD : Only p.has w W) (kb : Blk W b 45 cs) (hb : w.heap.size ≤ b) (hF : Only (fun k => k = b) W WF) (hap : ∀ q, (Value.slice A n c).ownBlock = some q → ¬ p'.has q) :
    RulPost w base nb p most ticks r (.returned (.agg #[.int .i64 r.2.code, .slice A n c, .int .i64 r.2.report])) WF := by
  refine ⟨p', A, n, c, rfl, own_only hrow hF (fun k hk e => own_blk_ne hrow kb (by decide) (by rw [hk, e])), hx.only hF (fun k hk e => ?_), hp, hg, hD.trans hF (fun x hx h => by omega), hap⟩
  subst e
  rcases hk with h | h | h | h
  · exact Blk.ne_ hx.blk (h ▸ kb) (by decide) rfl
  · exact Blk.ne_ hx.rw_ (h ▸ kb) (by decide) rfl
  · exact Blk.ne_ hx.rg (h ▸ kb) (by decide) rfl
  · exact Blk.ne_ hx.rq (h ▸ kb) (by decide) rfl
theorem blk_ruling {w : World} {b : Nat} {a0 a1 a2 : Value} (h : Blk w b 45 #[a0, a1, a2]) (b0 b1 b2 : Value) :
    Blk (((w.setCell ⟨b, 0, none⟩ b0).setCell ⟨b, 1, none⟩ b1).setCell ⟨b, 2, none⟩ b2) b 45 #[b0, b1, b2] := by
  have h1 : Blk (w.setCell ⟨b, 0, none⟩ b0) b 45 #[b0, a1, a2] := h.set_ 0 b0
  have h2 : Blk ((w.setCell ⟨b, 0, none⟩ b0).setCell ⟨b, 1, none⟩ b1) b 45 #[b0, b1, a2] := h1.set_ 1 b1
  exact h2.set_ 2 b2

set_option maxRecDepth 100000 in
set_option maxHeartbeats 8000000 in
theorem bookCall_any (base nb : Nat) (p : BkL) (most ticks : Int) (s : BkS) (w : World) (K : Int) (c : CallD) (h : BkAt w base nb p most ticks s) (ho : s.ok nb K) (hK : K ≤ 1000000) (hnb : 1 ≤ nb ∧ nb ≤ 8) (hm : 0 ≤ most ∧ most ≤ 1048576) (ht : 1 ≤ ticks ∧ ticks ≤ 8) (hB : base ≤ w.heap.size) :
    Calls Try.prog 19 #[.pointer (some ⟨p.g, 0, none⟩), c.val] w (RulPost w base nb p most ticks (callB most ticks s c)) := by
  obtain ⟨ck, cw, cc⟩ := c
  unfold CallD.val
  dsimp only
  obtain ⟨b0, hb0⟩ : ∃ b0, b0 = w.heap.size := ⟨_, rfl⟩
  obtain ⟨wx, hwx⟩ : ∃ wx, wx = ((w.alloc (.cells #[.int .i64 ck, .int .i64 cw, .int .i64 cc] 66)).alloc (.cells #[.int .i64 0, .slice none 0 0, .int .i64 0] 45)).alloc (.cells #[.int .i64 0, .slice none 0 0, .int .i64 (-1)] 45) := ⟨_, rfl⟩
  have hbx : Below w.heap.size w wx := by rw [hwx]; exact (((Below.refl _ _).alloc (Nat.le_refl _) _).alloc (by simp) _).alloc (by simp; omega) _
  have k0 : Blk wx b0 66 #[.int .i64 ck, .int .i64 cw, .int .i64 cc] := by rw [hwx, hb0]; exact ((Blk.new w 66 _).alloc _).alloc _
  have k1 : Blk wx (b0 + 1) 45 #[.int .i64 0, .slice none 0 0, .int .i64 0] := by
    have h := (Blk.new (w.alloc (.cells #[.int .i64 ck, .int .i64 cw, .int .i64 cc] 66)) 45 #[.int .i64 0, .slice none 0 0, .int .i64 0]).alloc (.cells #[.int .i64 0, .slice none 0 0, .int .i64 (-1)] 45)
    rw [hwx, hb0]
    simpa using h
  have k2 : Blk wx (b0 + 2) 45 #[.int .i64 0, .slice none 0 0, .int .i64 (-1)] := by
    have h := Blk.new ((w.alloc (.cells #[.int .i64 ck, .int .i64 cw, .int .i64 cc] 66)).alloc (.cells #[.int .i64 0, .slice none 0 0, .int .i64 0] 45)) 45 #[.int .i64 0, .slice none 0 0, .int .i64 (-1)]
    rw [hwx, hb0]
    simpa using h
  have HX := hide (h.calm hbx)
  have HBX := hide hbx
  have HK0 := hide k0
  have HK1 := hide k1
  have HK2 := hide k2
  have HO := hide ho
  have HWX := hide hwx
  have HB0 := hide hb0
  have hlt := fun k hk => h.lt k hk
  have HLT := hide hlt
  have q0 : wx.cell? ⟨b0, 0, none⟩ = some (.int .i64 ck) := k0.cell 0
  have q1 : wx.cell? ⟨b0, 1, none⟩ = some (.int .i64 cw) := k0.cell 1
  have q2 : wx.cell? ⟨b0, 2, none⟩ = some (.int .i64 cc) := k0.cell 2
  have v0 : wx.cell? ⟨b0 + 2, 0, none⟩ = some (.int .i64 0) := k2.cell 0
  have v1 : wx.cell? ⟨b0 + 2, 1, none⟩ = some (.slice none 0 0) := k2.cell 1
  have v2 : wx.cell? ⟨b0 + 2, 2, none⟩ = some (.int .i64 (-1)) := k2.cell 2
  have g0 := k2.frozen 0
  have u0 : wx.cell? ⟨b0 + 1, 0, none⟩ = some (.int .i64 0) := k1.cell 0
  have u1 : wx.cell? ⟨b0 + 1, 1, none⟩ = some (.slice none 0 0) := k1.cell 1
  have u2 : wx.cell? ⟨b0 + 1, 2, none⟩ = some (.int .i64 0) := k1.cell 2
  have f0 := k1.frozen 0
  have f1 := k1.frozen 1
  have f2 := k1.frozen 2
  clear h ho hbx k0 k1 k2 hwx hb0 hlt
  by_cases h1 : ck = 1
  · subst h1
    have HF0 := hide (show callB most ticks s ⟨1, cw, cc⟩ = if cc < 1 ∨ 1048576 < cc then (s, ⟨2, [], -1⟩) else if 1048576 < s.all + cc then (s, ⟨12, [], -1⟩) else (stockB s cc, ⟨0, [], -1⟩) by unfold callB; rw [if_pos rfl])
    by_cases a1 : cc < 1
    · have HF := hide (show callB most ticks s ⟨1, cw, cc⟩ = (s, ⟨2, [], -1⟩) by rw [unhide HF0, if_pos (.inl a1)])
      go_enter Try.func19, Try.ntmps19
      go_upto_region 2 with fail
      rw [← unhide HWX, ← unhide HB0]
      go_wp2_with fail
      obtain ⟨W0, hW0⟩ : ∃ W0, W0 = wx := ⟨_, rfl⟩
      have hbw0 : Below wx.heap.size wx W0 := by rw [hW0]; exact Below.refl _ _
      rw [← hW0]
      clear hW0
      obtain ⟨w4, hw4⟩ : ∃ w4, w4 = W0.setCell ⟨b0 + 1 + 1, 0, none⟩ (.int .i64 2) := ⟨_, rfl⟩
      have hO4 : Only (fun k => k = b0 + 1 + 1) W0 w4 := by rw [hw4]; exact only_put (Only.refl _ _) _ _
      have hx0 := (unhide HX).calm hbw0
      have k10 := ((unhide HK1).below hbw0 (unhide HK1).lt).only hO4 (fun e => by omega)
      have hx4 := hx0.only hO4 (fun k hk e => by have := unhide HLT k hk; have := unhide HB0; omega)
      have hD4 : Only p.has w w4 := (Only.of_below ((unhide HBX).trans (hbw0.mono (unhide HBX).size)) (fun x h1 h2 => by omega)).trans hO4 (fun x h1 h2 => by have := unhide HB0; omega)
      rw [← hw4]
      clear hw4 hO4
      obtain ⟨w5, hw5⟩ : ∃ w5, w5 = (((w4).setCell ⟨b0 + 1, 0, none⟩ (.int .i64 2)).setCell ⟨b0 + 1, 1, none⟩ (.slice none 0 0)).setCell ⟨b0 + 1, 2, none⟩ (.int .i64 (-1)) := ⟨_, rfl⟩
      have k5 : Blk w5 (b0 + 1) 45 #[.int .i64 2, .slice none 0 0, .int .i64 (-1)] := by rw [hw5]; exact blk_ruling (k10) _ _ _
      have hF5 : Only (fun k => k = b0 + 1) (w4) w5 := by rw [hw5]; exact only_put (only_put (only_put (Only.refl _ _) _ _) _ _) _ _
      rw [← hw5]
      have z0 := k5.cell 0
      have z1 := k5.cell 1
      have z2 := k5.cell 2
      have hbw : w.heap.size ≤ b0 + 1 := by have := unhide HB0; omega
      have hfin := rul_fin (w := w) (p := p) (r := (s, ⟨2, [], -1⟩)) (hx4) (fun k hk => .inl hk) (rfl) (World.ownsRow_nil _ _ _ _) (hD4) (k10) hbw hF5 (fun q hq => by cases hq)
      clear hw5 k5 hF5
      refine bodyPost_ret (v := .agg #[.int .i64 2, .slice none 0 0, .int .i64 (-1)]) (by simp [results, Try.results19, go_sem, z0, z1, z2]) rfl (by rw [unhide HF]; exact hfin)
    by_cases a2 : 1048576 < cc
    · have HF := hide (show callB most ticks s ⟨1, cw, cc⟩ = (s, ⟨2, [], -1⟩) by rw [unhide HF0, if_pos (.inr a2)])
      go_enter Try.func19, Try.ntmps19
      go_upto_region 2 with fail
      rw [← unhide HWX, ← unhide HB0]
      go_wp2_with fail
      obtain ⟨W0, hW0⟩ : ∃ W0, W0 = wx := ⟨_, rfl⟩
      have hbw0 : Below wx.heap.size wx W0 := by rw [hW0]; exact Below.refl _ _
      rw [← hW0]
      clear hW0
      obtain ⟨w4, hw4⟩ : ∃ w4, w4 = W0.setCell ⟨b0 + 1 + 1, 0, none⟩ (.int .i64 2) := ⟨_, rfl⟩
      have hO4 : Only (fun k => k = b0 + 1 + 1) W0 w4 := by rw [hw4]; exact only_put (Only.refl _ _) _ _
      have hx0 := (unhide HX).calm hbw0
      have k10 := ((unhide HK1).below hbw0 (unhide HK1).lt).only hO4 (fun e => by omega)
      have hx4 := hx0.only hO4 (fun k hk e => by have := unhide HLT k hk; have := unhide HB0; omega)
      have hD4 : Only p.has w w4 := (Only.of_below ((unhide HBX).trans (hbw0.mono (unhide HBX).size)) (fun x h1 h2 => by omega)).trans hO4 (fun x h1 h2 => by have := unhide HB0; omega)
      rw [← hw4]
      clear hw4 hO4
      obtain ⟨w5, hw5⟩ : ∃ w5, w5 = (((w4).setCell ⟨b0 + 1, 0, none⟩ (.int .i64 2)).setCell ⟨b0 + 1, 1, none⟩ (.slice none 0 0)).setCell ⟨b0 + 1, 2, none⟩ (.int .i64 (-1)) := ⟨_, rfl⟩
      have k5 : Blk w5 (b0 + 1) 45 #[.int .i64 2, .slice none 0 0, .int .i64 (-1)] := by rw [hw5]; exact blk_ruling (k10) _ _ _
      have hF5 : Only (fun k => k = b0 + 1) (w4) w5 := by rw [hw5]; exact only_put (only_put (only_put (Only.refl _ _) _ _) _ _) _ _
      rw [← hw5]
      have z0 := k5.cell 0
      have z1 := k5.cell 1
      have z2 := k5.cell 2
      have hbw : w.heap.size ≤ b0 + 1 := by have := unhide HB0; omega
      have hfin := rul_fin (w := w) (p := p) (r := (s, ⟨2, [], -1⟩)) (hx4) (fun k hk => .inl hk) (rfl) (World.ownsRow_nil _ _ _ _) (hD4) (k10) hbw hF5 (fun q hq => by cases hq)
      clear hw5 k5 hF5
      refine bodyPost_ret (v := .agg #[.int .i64 2, .slice none 0 0, .int .i64 (-1)]) (by simp [results, Try.results19, go_sem, z0, z1, z2]) rfl (by rw [unhide HF]; exact hfin)
    have hall := (unhide HO).res
    have c4 : wx.cell? ⟨p.g, 4, none⟩ = some (.int .i64 s.all) := (unhide HX).blk.cell 4
    by_cases a3 : 1048576 < s.all + cc
    · have HF := hide (show callB most ticks s ⟨1, cw, cc⟩ = (s, ⟨12, [], -1⟩) by rw [unhide HF0, if_neg (by omega), if_pos a3])
      go_enter Try.func19, Try.ntmps19
      go_upto_region 2 with fail
      rw [← unhide HWX, ← unhide HB0]
      go_wp2_with fail
      go_quiet (fail)
      go_wp2_with fail
      obtain ⟨W0, hW0⟩ : ∃ W0, W0 = wx.drewN nq := ⟨_, rfl⟩
      have hbw0 : Below wx.heap.size wx W0 := by rw [hW0]; exact below_drewN (Below.refl _ _) _
      rw [← hW0]
      clear hW0
      obtain ⟨w4, hw4⟩ : ∃ w4, w4 = W0.setCell ⟨b0 + 1 + 1, 0, none⟩ (.int .i64 12) := ⟨_, rfl⟩
      have hO4 : Only (fun k => k = b0 + 1 + 1) W0 w4 := by rw [hw4]; exact only_put (Only.refl _ _) _ _
      have hx0 := (unhide HX).calm hbw0
      have k10 := ((unhide HK1).below hbw0 (unhide HK1).lt).only hO4 (fun e => by omega)
      have hx4 := hx0.only hO4 (fun k hk e => by have := unhide HLT k hk; have := unhide HB0; omega)
      have hD4 : Only p.has w w4 := (Only.of_below ((unhide HBX).trans (hbw0.mono (unhide HBX).size)) (fun x h1 h2 => by omega)).trans hO4 (fun x h1 h2 => by have := unhide HB0; omega)
      rw [← hw4]
      clear hw4 hO4
      obtain ⟨w5, hw5⟩ : ∃ w5, w5 = (((w4).setCell ⟨b0 + 1, 0, none⟩ (.int .i64 12)).setCell ⟨b0 + 1, 1, none⟩ (.slice none 0 0)).setCell ⟨b0 + 1, 2, none⟩ (.int .i64 (-1)) := ⟨_, rfl⟩
      have k5 : Blk w5 (b0 + 1) 45 #[.int .i64 12, .slice none 0 0, .int .i64 (-1)] := by rw [hw5]; exact blk_ruling (k10) _ _ _
      have hF5 : Only (fun k => k = b0 + 1) (w4) w5 := by rw [hw5]; exact only_put (only_put (only_put (Only.refl _ _) _ _) _ _) _ _
      rw [← hw5]
      have z0 := k5.cell 0
      have z1 := k5.cell 1
      have z2 := k5.cell 2
      have hbw : w.heap.size ≤ b0 + 1 := by have := unhide HB0; omega
      have hfin := rul_fin (w := w) (p := p) (r := (s, ⟨12, [], -1⟩)) (hx4) (fun k hk => .inl hk) (rfl) (World.ownsRow_nil _ _ _ _) (hD4) (k10) hbw hF5 (fun q hq => by cases hq)
      clear hw5 k5 hF5
      refine bodyPost_ret (v := .agg #[.int .i64 12, .slice none 0 0, .int .i64 (-1)]) (by simp [results, Try.results19, go_sem, z0, z1, z2]) rfl (by rw [unhide HF]; exact hfin)
    · have HF := hide (show callB most ticks s ⟨1, cw, cc⟩ = (stockB s cc, ⟨0, [], -1⟩) by rw [unhide HF0, if_neg (by omega), if_neg a3])
      have a3' : s.all + cc ≤ 1048576 := by omega
      go_enter Try.func19, Try.ntmps19
      go_upto_region 2 with fail
      rw [← unhide HWX, ← unhide HB0]
      go_wp2_with fail
      go_quiet (fail)
      obtain ⟨W0, hW0⟩ : ∃ W0, W0 = wx.drewN nq := ⟨_, rfl⟩
      have hbw0 : Below wx.heap.size wx W0 := by rw [hW0]; exact below_drewN (Below.refl _ _) _
      rw [← hW0]
      clear hW0
      have HST := hide (bookStock_any base nb p most ticks s W0 cc ((unhide HX).calm hbw0) ⟨by omega, by omega⟩ ⟨by omega, by omega⟩ ⟨by omega, by omega⟩)
      have q2' : W0.cell? ⟨b0, 2, none⟩ = some (.int .i64 cc) := ((unhide HK0).below hbw0 (unhide HK0).lt).cell 2
      clear a3
      go_wp2_with fail
      refine (unhide HST).mono ?_
      rintro _ w4 ⟨rfl, hx4, ho4⟩
      have hne : ∀ k, b0 ≤ k → ¬ p.has k := fun k hk h => by have := unhide HLT k h; have := unhide HB0; omega
      have k14 := ((unhide HK1).below hbw0 (unhide HK1).lt).only ho4 (hne _ (by omega))
      have k24 := ((unhide HK2).below hbw0 (unhide HK2).lt).only ho4 (hne _ (by omega))
      have y0 : w4.cell? ⟨b0 + 1 + 1, 0, none⟩ = some (.int .i64 0) := k24.cell 0
      have y1 : w4.cell? ⟨b0 + 1 + 1, 1, none⟩ = some (.slice none 0 0) := k24.cell 1
      have y2 : w4.cell? ⟨b0 + 1 + 1, 2, none⟩ = some (.int .i64 (-1)) := k24.cell 2
      have x0 : w4.cell? ⟨b0 + 1, 0, none⟩ = some (.int .i64 0) := k14.cell 0
      have x1 : w4.cell? ⟨b0 + 1, 1, none⟩ = some (.slice none 0 0) := k14.cell 1
      have x2 : w4.cell? ⟨b0 + 1, 2, none⟩ = some (.int .i64 0) := k14.cell 2
      have g10 := k14.frozen 0
      have g11 := k14.frozen 1
      have g12 := k14.frozen 2
      have hD4 : Only p.has w w4 := (Only.of_below ((unhide HBX).trans (hbw0.mono (unhide HBX).size)) (fun x h1 h2 => by omega)).trans ho4 (fun x h1 h2 => h2)
      have HX4 := hide hx4
      have HK14 := hide k14
      have HD4 := hide hD4
      clear hx4 ho4 hne k14 k24 hD4
      go_wp2_with fail
      obtain ⟨w5, hw5⟩ : ∃ w5, w5 = (((w4).setCell ⟨b0 + 1, 0, none⟩ (.int .i64 0)).setCell ⟨b0 + 1, 1, none⟩ (.slice none 0 0)).setCell ⟨b0 + 1, 2, none⟩ (.int .i64 (-1)) := ⟨_, rfl⟩
      have k5 : Blk w5 (b0 + 1) 45 #[.int .i64 0, .slice none 0 0, .int .i64 (-1)] := by rw [hw5]; exact blk_ruling (unhide HK14) _ _ _
      have hF5 : Only (fun k => k = b0 + 1) (w4) w5 := by rw [hw5]; exact only_put (only_put (only_put (Only.refl _ _) _ _) _ _) _ _
      rw [← hw5]
      have z0 := k5.cell 0
      have z1 := k5.cell 1
      have z2 := k5.cell 2
      have hbw : w.heap.size ≤ b0 + 1 := by have := unhide HB0; omega
      have hfin := rul_fin (w := w) (p := p) (r := (stockB s cc, ⟨0, [], -1⟩)) (unhide HX4) (fun k hk => .inl hk) (rfl) (World.ownsRow_nil _ _ _ _) (unhide HD4) (unhide HK14) hbw hF5 (fun q hq => by cases hq)
      clear hw5 k5 hF5
      refine bodyPost_ret (v := .agg #[.int .i64 0, .slice none 0 0, .int .i64 (-1)]) (by simp [results, Try.results19, go_sem, z0, z1, z2]) rfl (by rw [unhide HF]; exact hfin)
  by_cases h2 : ck = 2
  · subst h2
    have c5 : wx.cell? ⟨p.g, 5, none⟩ = some (.slice (some ⟨p.gw, 0, none⟩) nb nb) := (unhide HX).blk.cell 5
    have HF0 := hide (show callB most ticks s ⟨2, cw, cc⟩ = if cw < 0 ∨ nb ≤ cw ∨ cc < 0 ∨ 1048576 < cc then (s, ⟨2, [], -1⟩) else (wantB s cw.toNat cc, ⟨0, [], -1⟩) by unfold callB; rw [if_neg (show ¬ (2 : Int) = 1 by decide), if_pos rfl, (unhide HO).lw])
    clear h1
    by_cases a1 : cw < 0
    · have HF := hide (show callB most ticks s ⟨2, cw, cc⟩ = (s, ⟨2, [], -1⟩) by rw [unhide HF0, if_pos (.inl a1)])
      have d1 : decide (cw < 0) = true := decide_eq_true a1
      go_enter Try.func19, Try.ntmps19
      go_upto_region 2 with fail
      rw [← unhide HWX, ← unhide HB0]
      go_wp2_with fail
      go_quiet (fail)
      go_wp2_with fail
      obtain ⟨W0, hW0⟩ : ∃ W0, W0 = wx.drewN nq := ⟨_, rfl⟩
      have hbw0 : Below wx.heap.size wx W0 := by rw [hW0]; exact below_drewN (Below.refl _ _) _
      rw [← hW0]
      clear hW0
      obtain ⟨w4, hw4⟩ : ∃ w4, w4 = W0.setCell ⟨b0 + 1 + 1, 0, none⟩ (.int .i64 2) := ⟨_, rfl⟩
      have hO4 : Only (fun k => k = b0 + 1 + 1) W0 w4 := by rw [hw4]; exact only_put (Only.refl _ _) _ _
      have hx0 := (unhide HX).calm hbw0
      have k10 := ((unhide HK1).below hbw0 (unhide HK1).lt).only hO4 (fun e => by omega)
      have hx4 := hx0.only hO4 (fun k hk e => by have := unhide HLT k hk; have := unhide HB0; omega)
      have hD4 : Only p.has w w4 := (Only.of_below ((unhide HBX).trans (hbw0.mono (unhide HBX).size)) (fun x h1 h2 => by omega)).trans hO4 (fun x h1 h2 => by have := unhide HB0; omega)
      rw [← hw4]
      clear hw4 hO4
      obtain ⟨w5, hw5⟩ : ∃ w5, w5 = (((w4).setCell ⟨b0 + 1, 0, none⟩ (.int .i64 2)).setCell ⟨b0 + 1, 1, none⟩ (.slice none 0 0)).setCell ⟨b0 + 1, 2, none⟩ (.int .i64 (-1)) := ⟨_, rfl⟩
      have k5 : Blk w5 (b0 + 1) 45 #[.int .i64 2, .slice none 0 0, .int .i64 (-1)] := by rw [hw5]; exact blk_ruling (k10) _ _ _
      have hF5 : Only (fun k => k = b0 + 1) (w4) w5 := by rw [hw5]; exact only_put (only_put (only_put (Only.refl _ _) _ _) _ _) _ _
      rw [← hw5]
      have z0 := k5.cell 0
      have z1 := k5.cell 1
      have z2 := k5.cell 2
      have hbw : w.heap.size ≤ b0 + 1 := by have := unhide HB0; omega
      have hfin := rul_fin (w := w) (p := p) (r := (s, ⟨2, [], -1⟩)) (hx4) (fun k hk => .inl hk) (rfl) (World.ownsRow_nil _ _ _ _) (hD4) (k10) hbw hF5 (fun q hq => by cases hq)
      clear hw5 k5 hF5
      refine bodyPost_ret (v := .agg #[.int .i64 2, .slice none 0 0, .int .i64 (-1)]) (by simp [results, Try.results19, go_sem, z0, z1, z2]) rfl (by rw [unhide HF]; exact hfin)
    obtain ⟨j, rfl⟩ := Int.eq_ofNat_of_zero_le (show 0 ≤ cw by omega)
    have d1 : decide ((j : Int) < 0) = false := decide_eq_false a1
    by_cases a2 : nb ≤ j
    · have HF := hide (show callB most ticks s ⟨2, j, cc⟩ = (s, ⟨2, [], -1⟩) by rw [unhide HF0, if_pos (.inr (.inl (by omega)))])
      have d2 : decide (nb ≤ j) = true := decide_eq_true a2
      go_enter Try.func19, Try.ntmps19
      go_upto_region 2 with fail
      rw [← unhide HWX, ← unhide HB0]
      go_wp2_with fail
      go_quiet (fail)
      go_wp2_with fail
      obtain ⟨W0, hW0⟩ : ∃ W0, W0 = wx.drewN nq := ⟨_, rfl⟩
      have hbw0 : Below wx.heap.size wx W0 := by rw [hW0]; exact below_drewN (Below.refl _ _) _
      rw [← hW0]
      clear hW0
      obtain ⟨w4, hw4⟩ : ∃ w4, w4 = W0.setCell ⟨b0 + 1 + 1, 0, none⟩ (.int .i64 2) := ⟨_, rfl⟩
      have hO4 : Only (fun k => k = b0 + 1 + 1) W0 w4 := by rw [hw4]; exact only_put (Only.refl _ _) _ _
      have hx0 := (unhide HX).calm hbw0
      have k10 := ((unhide HK1).below hbw0 (unhide HK1).lt).only hO4 (fun e => by omega)
      have hx4 := hx0.only hO4 (fun k hk e => by have := unhide HLT k hk; have := unhide HB0; omega)
      have hD4 : Only p.has w w4 := (Only.of_below ((unhide HBX).trans (hbw0.mono (unhide HBX).size)) (fun x h1 h2 => by omega)).trans hO4 (fun x h1 h2 => by have := unhide HB0; omega)
      rw [← hw4]
      clear hw4 hO4
      obtain ⟨w5, hw5⟩ : ∃ w5, w5 = (((w4).setCell ⟨b0 + 1, 0, none⟩ (.int .i64 2)).setCell ⟨b0 + 1, 1, none⟩ (.slice none 0 0)).setCell ⟨b0 + 1, 2, none⟩ (.int .i64 (-1)) := ⟨_, rfl⟩
      have k5 : Blk w5 (b0 + 1) 45 #[.int .i64 2, .slice none 0 0, .int .i64 (-1)] := by rw [hw5]; exact blk_ruling (k10) _ _ _
      have hF5 : Only (fun k => k = b0 + 1) (w4) w5 := by rw [hw5]; exact only_put (only_put (only_put (Only.refl _ _) _ _) _ _) _ _
      rw [← hw5]
      have z0 := k5.cell 0
      have z1 := k5.cell 1
      have z2 := k5.cell 2
      have hbw : w.heap.size ≤ b0 + 1 := by have := unhide HB0; omega
      have hfin := rul_fin (w := w) (p := p) (r := (s, ⟨2, [], -1⟩)) (hx4) (fun k hk => .inl hk) (rfl) (World.ownsRow_nil _ _ _ _) (hD4) (k10) hbw hF5 (fun q hq => by cases hq)
      clear hw5 k5 hF5
      refine bodyPost_ret (v := .agg #[.int .i64 2, .slice none 0 0, .int .i64 (-1)]) (by simp [results, Try.results19, go_sem, z0, z1, z2]) rfl (by rw [unhide HF]; exact hfin)
    have d2 : decide (nb ≤ j) = false := decide_eq_false a2
    by_cases a3 : cc < 0
    · have HF := hide (show callB most ticks s ⟨2, j, cc⟩ = (s, ⟨2, [], -1⟩) by rw [unhide HF0, if_pos (.inr (.inr (.inl a3)))])
      have d3 : decide (cc < 0) = true := decide_eq_true a3
      go_enter Try.func19, Try.ntmps19
      go_upto_region 2 with fail
      rw [← unhide HWX, ← unhide HB0]
      go_wp2_with fail
      go_quiet (fail)
      go_wp2_with fail
      obtain ⟨W0, hW0⟩ : ∃ W0, W0 = wx.drewN nq := ⟨_, rfl⟩
      have hbw0 : Below wx.heap.size wx W0 := by rw [hW0]; exact below_drewN (Below.refl _ _) _
      rw [← hW0]
      clear hW0
      obtain ⟨w4, hw4⟩ : ∃ w4, w4 = W0.setCell ⟨b0 + 1 + 1, 0, none⟩ (.int .i64 2) := ⟨_, rfl⟩
      have hO4 : Only (fun k => k = b0 + 1 + 1) W0 w4 := by rw [hw4]; exact only_put (Only.refl _ _) _ _
      have hx0 := (unhide HX).calm hbw0
      have k10 := ((unhide HK1).below hbw0 (unhide HK1).lt).only hO4 (fun e => by omega)
      have hx4 := hx0.only hO4 (fun k hk e => by have := unhide HLT k hk; have := unhide HB0; omega)
      have hD4 : Only p.has w w4 := (Only.of_below ((unhide HBX).trans (hbw0.mono (unhide HBX).size)) (fun x h1 h2 => by omega)).trans hO4 (fun x h1 h2 => by have := unhide HB0; omega)
      rw [← hw4]
      clear hw4 hO4
      obtain ⟨w5, hw5⟩ : ∃ w5, w5 = (((w4).setCell ⟨b0 + 1, 0, none⟩ (.int .i64 2)).setCell ⟨b0 + 1, 1, none⟩ (.slice none 0 0)).setCell ⟨b0 + 1, 2, none⟩ (.int .i64 (-1)) := ⟨_, rfl⟩
      have k5 : Blk w5 (b0 + 1) 45 #[.int .i64 2, .slice none 0 0, .int .i64 (-1)] := by rw [hw5]; exact blk_ruling (k10) _ _ _
      have hF5 : Only (fun k => k = b0 + 1) (w4) w5 := by rw [hw5]; exact only_put (only_put (only_put (Only.refl _ _) _ _) _ _) _ _
      rw [← hw5]
      have z0 := k5.cell 0
      have z1 := k5.cell 1
      have z2 := k5.cell 2
      have hbw : w.heap.size ≤ b0 + 1 := by have := unhide HB0; omega
      have hfin := rul_fin (w := w) (p := p) (r := (s, ⟨2, [], -1⟩)) (hx4) (fun k hk => .inl hk) (rfl) (World.ownsRow_nil _ _ _ _) (hD4) (k10) hbw hF5 (fun q hq => by cases hq)
      clear hw5 k5 hF5
      refine bodyPost_ret (v := .agg #[.int .i64 2, .slice none 0 0, .int .i64 (-1)]) (by simp [results, Try.results19, go_sem, z0, z1, z2]) rfl (by rw [unhide HF]; exact hfin)
    have d3 : decide (cc < 0) = false := decide_eq_false a3
    by_cases a4 : 1048576 < cc
    · have HF := hide (show callB most ticks s ⟨2, j, cc⟩ = (s, ⟨2, [], -1⟩) by rw [unhide HF0, if_pos (.inr (.inr (.inr a4)))])
      have d4 : decide (1048576 < cc) = true := decide_eq_true a4
      go_enter Try.func19, Try.ntmps19
      go_upto_region 2 with fail
      rw [← unhide HWX, ← unhide HB0]
      go_wp2_with fail
      go_quiet (fail)
      go_wp2_with fail
      obtain ⟨W0, hW0⟩ : ∃ W0, W0 = wx.drewN nq := ⟨_, rfl⟩
      have hbw0 : Below wx.heap.size wx W0 := by rw [hW0]; exact below_drewN (Below.refl _ _) _
      rw [← hW0]
      clear hW0
      obtain ⟨w4, hw4⟩ : ∃ w4, w4 = W0.setCell ⟨b0 + 1 + 1, 0, none⟩ (.int .i64 2) := ⟨_, rfl⟩
      have hO4 : Only (fun k => k = b0 + 1 + 1) W0 w4 := by rw [hw4]; exact only_put (Only.refl _ _) _ _
      have hx0 := (unhide HX).calm hbw0
      have k10 := ((unhide HK1).below hbw0 (unhide HK1).lt).only hO4 (fun e => by omega)
      have hx4 := hx0.only hO4 (fun k hk e => by have := unhide HLT k hk; have := unhide HB0; omega)
      have hD4 : Only p.has w w4 := (Only.of_below ((unhide HBX).trans (hbw0.mono (unhide HBX).size)) (fun x h1 h2 => by omega)).trans hO4 (fun x h1 h2 => by have := unhide HB0; omega)
      rw [← hw4]
      clear hw4 hO4
      obtain ⟨w5, hw5⟩ : ∃ w5, w5 = (((w4).setCell ⟨b0 + 1, 0, none⟩ (.int .i64 2)).setCell ⟨b0 + 1, 1, none⟩ (.slice none 0 0)).setCell ⟨b0 + 1, 2, none⟩ (.int .i64 (-1)) := ⟨_, rfl⟩
      have k5 : Blk w5 (b0 + 1) 45 #[.int .i64 2, .slice none 0 0, .int .i64 (-1)] := by rw [hw5]; exact blk_ruling (k10) _ _ _
      have hF5 : Only (fun k => k = b0 + 1) (w4) w5 := by rw [hw5]; exact only_put (only_put (only_put (Only.refl _ _) _ _) _ _) _ _
      rw [← hw5]
      have z0 := k5.cell 0
      have z1 := k5.cell 1
      have z2 := k5.cell 2
      have hbw : w.heap.size ≤ b0 + 1 := by have := unhide HB0; omega
      have hfin := rul_fin (w := w) (p := p) (r := (s, ⟨2, [], -1⟩)) (hx4) (fun k hk => .inl hk) (rfl) (World.ownsRow_nil _ _ _ _) (hD4) (k10) hbw hF5 (fun q hq => by cases hq)
      clear hw5 k5 hF5
      refine bodyPost_ret (v := .agg #[.int .i64 2, .slice none 0 0, .int .i64 (-1)]) (by simp [results, Try.results19, go_sem, z0, z1, z2]) rfl (by rw [unhide HF]; exact hfin)
    · have HF := hide (show callB most ticks s ⟨2, j, cc⟩ = (wantB s j cc, ⟨0, [], -1⟩) by rw [unhide HF0, if_neg (by omega)]; rfl)
      have d4 : decide (1048576 < cc) = false := decide_eq_false a4
      go_enter Try.func19, Try.ntmps19
      go_upto_region 2 with fail
      rw [← unhide HWX, ← unhide HB0]
      go_wp2_with fail
      go_quiet (fail)
      obtain ⟨W0, hW0⟩ : ∃ W0, W0 = wx.drewN nq := ⟨_, rfl⟩
      have hbw0 : Below wx.heap.size wx W0 := by rw [hW0]; exact below_drewN (Below.refl _ _) _
      rw [← hW0]
      clear hW0
      have HST := hide (bookWant_any base nb p most ticks s W0 j cc ((unhide HX).calm hbw0) (by omega) (unhide HO).lw hnb.2)
      have q1' : W0.cell? ⟨b0, 1, none⟩ = some (.int .i64 j) := ((unhide HK0).below hbw0 (unhide HK0).lt).cell 1
      have q2' : W0.cell? ⟨b0, 2, none⟩ = some (.int .i64 cc) := ((unhide HK0).below hbw0 (unhide HK0).lt).cell 2
      go_wp2_with fail
      refine (unhide HST).mono ?_
      rintro _ w4 ⟨rfl, hx4, ho4⟩
      have hne : ∀ k, b0 ≤ k → ¬ p.has k := fun k hk h => by have := unhide HLT k h; have := unhide HB0; omega
      have k14 := ((unhide HK1).below hbw0 (unhide HK1).lt).only ho4 (hne _ (by omega))
      have k24 := ((unhide HK2).below hbw0 (unhide HK2).lt).only ho4 (hne _ (by omega))
      have y0 : w4.cell? ⟨b0 + 1 + 1, 0, none⟩ = some (.int .i64 0) := k24.cell 0
      have y1 : w4.cell? ⟨b0 + 1 + 1, 1, none⟩ = some (.slice none 0 0) := k24.cell 1
      have y2 : w4.cell? ⟨b0 + 1 + 1, 2, none⟩ = some (.int .i64 (-1)) := k24.cell 2
      have x0 : w4.cell? ⟨b0 + 1, 0, none⟩ = some (.int .i64 0) := k14.cell 0
      have x1 : w4.cell? ⟨b0 + 1, 1, none⟩ = some (.slice none 0 0) := k14.cell 1
      have x2 : w4.cell? ⟨b0 + 1, 2, none⟩ = some (.int .i64 0) := k14.cell 2
      have g10 := k14.frozen 0
      have g11 := k14.frozen 1
      have g12 := k14.frozen 2
      have hD4 : Only p.has w w4 := (Only.of_below ((unhide HBX).trans (hbw0.mono (unhide HBX).size)) (fun x h1 h2 => by omega)).trans ho4 (fun x h1 h2 => h2)
      have HX4 := hide hx4
      have HK14 := hide k14
      have HD4 := hide hD4
      clear hx4 ho4 hne k14 k24 hD4
      go_wp2_with fail
      obtain ⟨w5, hw5⟩ : ∃ w5, w5 = (((w4).setCell ⟨b0 + 1, 0, none⟩ (.int .i64 0)).setCell ⟨b0 + 1, 1, none⟩ (.slice none 0 0)).setCell ⟨b0 + 1, 2, none⟩ (.int .i64 (-1)) := ⟨_, rfl⟩
      have k5 : Blk w5 (b0 + 1) 45 #[.int .i64 0, .slice none 0 0, .int .i64 (-1)] := by rw [hw5]; exact blk_ruling (unhide HK14) _ _ _
      have hF5 : Only (fun k => k = b0 + 1) (w4) w5 := by rw [hw5]; exact only_put (only_put (only_put (Only.refl _ _) _ _) _ _) _ _
      rw [← hw5]
      have z0 := k5.cell 0
      have z1 := k5.cell 1
      have z2 := k5.cell 2
      have hbw : w.heap.size ≤ b0 + 1 := by have := unhide HB0; omega
      have hfin := rul_fin (w := w) (p := p) (r := (wantB s j cc, ⟨0, [], -1⟩)) (unhide HX4) (fun k hk => .inl hk) (rfl) (World.ownsRow_nil _ _ _ _) (unhide HD4) (unhide HK14) hbw hF5 (fun q hq => by cases hq)
      clear hw5 k5 hF5
      refine bodyPost_ret (v := .agg #[.int .i64 0, .slice none 0 0, .int .i64 (-1)]) (by simp [results, Try.results19, go_sem, z0, z1, z2]) rfl (by rw [unhide HF]; exact hfin)
  by_cases h3 : ck = 3
  · subst h3
    have HF := hide (show callB most ticks s ⟨3, cw, cc⟩ = ((roundB most ticks s).1, ⟨0, (roundB most ticks s).2.1, (roundB most ticks s).2.2⟩) by unfold callB; rw [if_neg (show ¬ (3 : Int) = 1 by decide), if_neg (show ¬ (3 : Int) = 2 by decide), if_pos rfl])
    have HRO := hide (bookRound_any base nb p most ticks s wx K (unhide HX) (unhide HO) hK hnb hm ht (Nat.le_trans hB (unhide HBX).size))
    generalize roundB most ticks s = r at HF HRO
    obtain ⟨s2, gr, rep⟩ := r
    dsimp only at HF
    clear h1 h2
    go_enter Try.func19, Try.ntmps19
    go_upto_region 2 with fail
    rw [← unhide HWX, ← unhide HB0]
    go_wp2_with fail
    refine (unhide HRO).mono ?_
    rintro _ w4 ⟨p4, A4, n4, rfl, hrow4, hx4, hpg, hpw, hpg2, hpq, ho4, hap4⟩
    dsimp only at hrow4 hx4
    have hne : ∀ k, b0 ≤ k → ¬ p.has k := fun k hk h => by have := unhide HLT k h; have := unhide HB0; omega
    have k14 := (unhide HK1).only ho4 (hne _ (by omega))
    have k24 := (unhide HK2).only ho4 (hne _ (by omega))
    have y0 : w4.cell? ⟨b0 + 1 + 1, 0, none⟩ = some (.int .i64 0) := k24.cell 0
    have y1 : w4.cell? ⟨b0 + 1 + 1, 1, none⟩ = some (.slice none 0 0) := k24.cell 1
    have y2 : w4.cell? ⟨b0 + 1 + 1, 2, none⟩ = some (.int .i64 (-1)) := k24.cell 2
    have y1f := k24.frozen 1
    have y2f := k24.frozen 2
    have HK24 := hide k24
    have HK14 := hide k14
    have HX4 := hide hx4
    have HR4 := hide (own_mono hrow4 (unhide HBX).size)
    have HD4 := hide (show Only p.has w w4 from (Only.of_below (unhide HBX) (fun x h1 h2 => by omega)).trans ho4 (fun x h1 h2 => h2))
    have HP4 := hide (show ∀ k, p4.has k → p.has k ∨ w.heap.size ≤ k from fun k hk => by
      have := (unhide HBX).size
      rcases hk with h | h | h | h
      · exact .inl (.inl (h.trans hpg))
      · exact .inl (.inr (.inl (h.trans hpw)))
      · exact .inl (.inr (.inr (.inl (h.trans hpg2))))
      · rcases hpq with h2 | h2
        · exact .inl (.inr (.inr (.inr (h.trans h2))))
        · exact .inr (by omega))
    have HPG := hide hpg
    have HAP4 := hide hap4
    clear hrow4 hx4 hpg hpw hpg2 hpq ho4 hap4 hne k14 k24
    go_upto_region 16 with fail
    obtain ⟨w6, hw6⟩ : ∃ w6, w6 = (w4.setCell ⟨b0 + 1 + 1, 1, none⟩ (.slice A4 nb n4)).setCell ⟨b0 + 1 + 1, 2, none⟩ (.int .i64 rep) := ⟨_, rfl⟩
    have hO6 : Only (fun k => k = b0 + 1 + 1) w4 w6 := by rw [hw6]; exact only_put (only_put (Only.refl _ _) _ _) _ _
    have k26 : Blk w6 (b0 + 1 + 1) 45 #[.int .i64 0, .slice A4 nb n4, .int .i64 rep] := by rw [hw6]; exact ((unhide HK24).set_ 1 _).set_ 2 _
    rw [← hw6]
    have k16 := (unhide HK14).only hO6 (fun e => by omega)
    have HX6 := hide ((unhide HX4).only hO6 (fun k hk e => by
      subst e
      rcases hk with h | h | h | h
      · exact Blk.ne_ (unhide HX4).blk (h ▸ unhide HK24) (by decide) rfl
      · exact Blk.ne_ (unhide HX4).rw_ (h ▸ unhide HK24) (by decide) rfl
      · exact Blk.ne_ (unhide HX4).rg (h ▸ unhide HK24) (by decide) rfl
      · exact Blk.ne_ (unhide HX4).rq (h ▸ unhide HK24) (by decide) rfl))
    have HR6 := hide (own_only (unhide HR4) hO6 (fun k hk e => own_blk_ne (unhide HR4) (unhide HK24) (by decide) (by rw [hk, e])))
    have HD6 := hide (show Only p.has w w6 from (unhide HD4).trans hO6 (fun x h1 h2 => by have := unhide HB0; omega))
    have HK16 := hide k16
    have y0 : w6.cell? ⟨b0 + 1 + 1, 0, none⟩ = some (.int .i64 0) := k26.cell 0
    have y1 : w6.cell? ⟨b0 + 1 + 1, 1, none⟩ = some (.slice A4 nb n4) := k26.cell 1
    have y2 : w6.cell? ⟨b0 + 1 + 1, 2, none⟩ = some (.int .i64 rep) := k26.cell 2
    have x0 : w6.cell? ⟨b0 + 1, 0, none⟩ = some (.int .i64 0) := k16.cell 0
    have x1 : w6.cell? ⟨b0 + 1, 1, none⟩ = some (.slice none 0 0) := k16.cell 1
    have x2 : w6.cell? ⟨b0 + 1, 2, none⟩ = some (.int .i64 0) := k16.cell 2
    have g10 := k16.frozen 0
    have g11 := k16.frozen 1
    have g12 := k16.frozen 2
    clear hw6 hO6 k26 k16
    go_wp2_with fail
    obtain ⟨w5, hw5⟩ : ∃ w5, w5 = (((w6).setCell ⟨b0 + 1, 0, none⟩ (.int .i64 0)).setCell ⟨b0 + 1, 1, none⟩ (.slice A4 nb n4)).setCell ⟨b0 + 1, 2, none⟩ (.int .i64 rep) := ⟨_, rfl⟩
    have k5 : Blk w5 (b0 + 1) 45 #[.int .i64 0, .slice A4 nb n4, .int .i64 rep] := by rw [hw5]; exact blk_ruling (unhide HK16) _ _ _
    have hF5 : Only (fun k => k = b0 + 1) (w6) w5 := by rw [hw5]; exact only_put (only_put (only_put (Only.refl _ _) _ _) _ _) _ _
    rw [← hw5]
    have z0 := k5.cell 0
    have z1 := k5.cell 1
    have z2 := k5.cell 2
    have hbw : w.heap.size ≤ b0 + 1 := by have := unhide HB0; omega
    have hfin := rul_fin (w := w) (p := p) (r := (s2, ⟨0, gr, rep⟩)) (unhide HX6) (unhide HP4) (unhide HPG) (unhide HR6) (unhide HD6) (unhide HK16) hbw hF5 (unhide HAP4)
    clear hw5 k5 hF5
    refine bodyPost_ret (v := .agg #[.int .i64 0, .slice A4 nb n4, .int .i64 rep]) (by simp [results, Try.results19, go_sem, z0, z1, z2]) rfl (by rw [unhide HF]; exact hfin)
  · have e1 : (ck == 1) = false := by simpa using h1
    have e2 : (ck == 2) = false := by simpa using h2
    have e3 : (ck == 3) = false := by simpa using h3
    have HF := hide (show callB most ticks s ⟨ck, cw, cc⟩ = (s, ⟨3, [], -1⟩) by unfold callB; rw [if_neg h1, if_neg h2, if_neg h3])
    clear h1 h2 h3
    go_enter Try.func19, Try.ntmps19
    go_upto_region 2 with fail
    rw [← unhide HWX, ← unhide HB0]
    go_wp2_with fail
    obtain ⟨W0, hW0⟩ : ∃ W0, W0 = wx := ⟨_, rfl⟩
    have hbw0 : Below wx.heap.size wx W0 := by rw [hW0]; exact Below.refl _ _
    rw [← hW0]
    clear hW0
    obtain ⟨w4, hw4⟩ : ∃ w4, w4 = W0.setCell ⟨b0 + 1 + 1, 0, none⟩ (.int .i64 3) := ⟨_, rfl⟩
    have hO4 : Only (fun k => k = b0 + 1 + 1) W0 w4 := by rw [hw4]; exact only_put (Only.refl _ _) _ _
    have hx0 := (unhide HX).calm hbw0
    have k10 := ((unhide HK1).below hbw0 (unhide HK1).lt).only hO4 (fun e => by omega)
    have hx4 := hx0.only hO4 (fun k hk e => by have := unhide HLT k hk; have := unhide HB0; omega)
    have hD4 : Only p.has w w4 := (Only.of_below ((unhide HBX).trans (hbw0.mono (unhide HBX).size)) (fun x h1 h2 => by omega)).trans hO4 (fun x h1 h2 => by have := unhide HB0; omega)
    rw [← hw4]
    clear hw4 hO4
    obtain ⟨w5, hw5⟩ : ∃ w5, w5 = (((w4).setCell ⟨b0 + 1, 0, none⟩ (.int .i64 3)).setCell ⟨b0 + 1, 1, none⟩ (.slice none 0 0)).setCell ⟨b0 + 1, 2, none⟩ (.int .i64 (-1)) := ⟨_, rfl⟩
    have k5 : Blk w5 (b0 + 1) 45 #[.int .i64 3, .slice none 0 0, .int .i64 (-1)] := by rw [hw5]; exact blk_ruling (k10) _ _ _
    have hF5 : Only (fun k => k = b0 + 1) (w4) w5 := by rw [hw5]; exact only_put (only_put (only_put (Only.refl _ _) _ _) _ _) _ _
    rw [← hw5]
    have z0 := k5.cell 0
    have z1 := k5.cell 1
    have z2 := k5.cell 2
    have hbw : w.heap.size ≤ b0 + 1 := by have := unhide HB0; omega
    have hfin := rul_fin (w := w) (p := p) (r := (s, ⟨3, [], -1⟩)) (hx4) (fun k hk => .inl hk) (rfl) (World.ownsRow_nil _ _ _ _) (hD4) (k10) hbw hF5 (fun q hq => by cases hq)
    clear hw5 k5 hF5
    refine bodyPost_ret (v := .agg #[.int .i64 3, .slice none 0 0, .int .i64 (-1)]) (by simp [results, Try.results19, go_sem, z0, z1, z2]) rfl (by rw [unhide HF]; exact hfin)
end Go.Proofs.Ytiljallignlbgaa
