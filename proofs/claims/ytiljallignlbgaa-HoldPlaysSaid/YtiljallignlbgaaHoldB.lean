/- Contracts of a shelf's shift and hold. Conditions: none beyond what each theorem states. -/
import Derived.Test.YtiljallignlbgaaHoldA
namespace Go.Proofs.Ytiljallignlbgaa
open Go.RowKit
set_option linter.unusedVariables false

theorem shelfShift_less (p : Value) (g a b : Nat) (x n : Int) (w : World) (ha : w.cell? ⟨g, a, none⟩ = some (.int .i64 x)) (hlt : x < n) :
    Calls Try.prog 34 #[p, .pointer (some ⟨g, a, none⟩), .pointer (some ⟨g, b, none⟩), .int .i64 n] w fun e w' => e = .returned (.int .i64 9) ∧ w = w' := by
  go_enter Try.func34, Try.ntmps34
  go_wp2_with fail
  go_ret
  exact ⟨rfl, rfl⟩
theorem shelfShift_ok (p : Value) (g a b : Nat) (x y n : Int) (w : World) (ha : w.cell? ⟨g, a, none⟩ = some (.int .i64 x)) (hb : w.cell? ⟨g, b, none⟩ = some (.int .i64 y)) (fa : w.frozen? ⟨g, a, none⟩ = false) (fb : w.frozen? ⟨g, b, none⟩ = false)
    (hab : a ≠ b) (hlt : n ≤ x) (h0 : 0 ≤ n) (hx : x ≤ 1048576) (hy0 : 0 ≤ y) (hy : y ≤ 1048576) :
    Calls Try.prog 34 #[p, .pointer (some ⟨g, a, none⟩), .pointer (some ⟨g, b, none⟩), .int .i64 n] w fun e w' => e = .returned (.int .i64 0) ∧ (w.setCell ⟨g, a, none⟩ (.int .i64 (x - n))).setCell ⟨g, b, none⟩ (.int .i64 (y + n)) = w' := by
  have hne : (⟨g, a, none⟩ : Addr) ≠ ⟨g, b, none⟩ := fun e => hab (by injection e)
  have hb2 : (w.setCell ⟨g, a, none⟩ (.int .i64 (x - n))).cell? ⟨g, b, none⟩ = some (.int .i64 y) := (World.cell?_setCell_other w ⟨g, a, none⟩ ⟨g, b, none⟩ _ hne).trans hb
  have hge : ¬ x < n := by omega
  clear hab hne
  go_enter Try.func34, Try.ntmps34
  go_wp2_with fail
  go_ret
  exact ⟨rfl, rfl⟩

theorem info_hold : (Try.prog.info? 96).map (fun i => (i.zero, i.size, i.bytes)) = some (some (.agg #[.int .i64 0, .int .i64 0, .int .i64 0]), 3, 24) := by kernel_rfl
theorem hold_info : ∃ i, Try.prog.info? 96 = some i ∧ i.zero = some (.agg #[.int .i64 0, .int .i64 0, .int .i64 0]) ∧ i.size = 3 ∧ i.bytes = 24 := by
  have h := info_hold
  cases hi : Try.prog.info? 96 with
  | none => rw [hi] at h; simp at h
  | some i => rw [hi] at h; simp at h; exact ⟨i, rfl, h.1, h.2.1, h.2.2⟩

/-- what an order comes to at a shelf that lies in memory -/
def ShPost (base g o : Nat) (cs : Array Value) (v : Value) (w : World) (r : Shf × Int × Int) (e : Ending) (w' : World) : Prop :=
  ∃ v', e = .returned (.tuple #[.int .i64 r.2.1, .int .i64 r.2.2]) ∧ ShAt w' base g o (putAt cs o (r.1.cells v')) r.1 v' ∧ Only (fun k => k = g ∨ v.ownBlock = some k) w w' ∧ (∀ k, v'.ownBlock = some k → v.ownBlock = some k ∨ w.heap.size ≤ k)
theorem shPost_same {base g o : Nat} {cs : Array Value} {s : Shf} {v : Value} {w w' : World} {a b : Int} (h : ShAt w' base g o cs s v) (hb : Below w.heap.size w w') : ShPost base g o cs v w (s, a, b) (.returned (.tuple #[.int .i64 a, .int .i64 b])) w' :=
  ⟨v, rfl, by rw [putAt_self cs o _ h.has]; exact h, Only.of_below hb fun x hx hB => by omega, fun k hk => .inl hk⟩

def holdS (s : Shf) (o : Ordr) : Shf × Int × Int :=
  if o.life < 1 ∨ 20 < o.life then (s, 0, 2) else if s.opn.length = 4 then (s, 0, 8) else if s.free < o.count then (s, 0, 9)
  else (⟨s.free - o.count, s.used, s.made + 1, s.opn ++ [⟨s.made + 1, o.count, o.life⟩]⟩, s.made + 1, 0)

set_option maxHeartbeats 1000000 in
theorem shelfHold_any (base g o : Nat) (cs : Array Value) (s : Shf) (v : Value) (w : World) (od : Ordr) (K : Int) (h : ShAt w base g o cs s v) (hs : s.ok K) (hK : K ≤ 1000000) (hc : 1 ≤ od.count) (hc2 : od.count ≤ 1048576) (hB : base ≤ w.heap.size) :
    Calls Try.prog 35 #[.pointer (some ⟨g, o, none⟩), od.val] w (ShPost base g o cs v w (holdS s od)) := by
  obtain ⟨kind, n, life, id⟩ := od
  unfold Ordr.val
  dsimp only at hc hc2 ⊢
  obtain ⟨wx, hwx⟩ : ∃ wx, wx = w.alloc (.cells #[.int .i64 kind, .int .i64 n, .int .i64 life, .int .i64 id] 53) := ⟨_, rfl⟩
  have hbx : Below w.heap.size w wx := by rw [hwx]; exact (Below.refl _ _).alloc (Nat.le_refl _) _
  have hsx : wx.heap.size = w.heap.size + 1 := by rw [hwx]; simp
  have k0 : Blk wx w.heap.size 53 #[.int .i64 kind, .int .i64 n, .int .i64 life, .int .i64 id] := by rw [hwx]; exact Blk.new w 53 _
  have hx := h.calm hbx
  have q1 := k0.cell 1
  have q2 := k0.cell 2
  have c0 := hx.c0
  have c2 := hx.c2
  have c3 := hx.c3
  have f0 := hx.fr o
  have hf0 := hs.free0
  have hm0 := hs.made0
  have hmK := hs.madeK
  have hll := hs.len
  have hfr : s.free ≤ 1048576 := by
    have h1 := hs.all
    have h2 := hs.used0
    have h3 : 0 ≤ heldL s.opn := heldL_nonneg fun x hx => by have := hs.each x hx; omega
    omega
  have HX := hide hx
  have HBX := hide hbx
  have HWX := hide hwx
  obtain ⟨A, c, rfl, hnc⟩ := own_slice h.own
  have hgx : g < wx.heap.size := hx.blk.lt
  have hgw : g < w.heap.size := h.blk.lt
  have HK0 := hide k0
  have hne : g ≠ w.heap.size := by omega
  clear hx h hbx hs k0
  obtain ⟨m, hm⟩ : ∃ m, m = s.opn.length := ⟨_, rfl⟩
  have HM := hide hm
  rw [← hm] at c3 hll
  have q1a := q1
  have q2a := q2
  have c0a := c0
  have c2a := c2
  have c3a := c3
  rw [hwx] at q1a q2a c0a c2a c3a
  clear hwx hm
  by_cases h1 : life < 1 ∨ 20 < life
  · have HF := hide (show holdS s ⟨kind, n, life, id⟩ = (s, 0, 2) by unfold holdS; rw [if_pos h1])
    by_cases h2 : life < 1
    · clear h1
      go_enter Try.func35, Try.ntmps35
      go_wp2_with fail
      go_ret2
      rw [unhide HF, ← unhide HWX]
      exact shPost_same (unhide HX) (unhide HBX)
    · have h3 : 20 < life := by omega
      have h2' : 1 ≤ life := by omega
      clear h1 h2
      go_enter Try.func35, Try.ntmps35
      go_wp2_with fail
      go_ret2
      rw [unhide HF, ← unhide HWX]
      exact shPost_same (unhide HX) (unhide HBX)
  have h1a : 1 ≤ life := by omega
  have h1b : life ≤ 20 := by omega
  by_cases h4 : m = 4
  · have HF := hide (show holdS s ⟨kind, n, life, id⟩ = (s, 0, 8) by unfold holdS; rw [if_neg h1, if_pos (by rw [← unhide HM]; exact h4)])
    subst h4
    clear h1
    go_enter Try.func35, Try.ntmps35
    go_wp2_with fail
    go_ret2
    rw [unhide HF, ← unhide HWX]
    exact shPost_same (unhide HX) (unhide HBX)
  have h4' : ((m : Int) == 4) = false := by simp; omega
  have h4'' : (m == 4) = false := by simpa using h4
  by_cases h5 : s.free < n
  · have HF := hide (show holdS s ⟨kind, n, life, id⟩ = (s, 0, 9) by unfold holdS; rw [if_neg h1, if_neg (by rw [← unhide HM]; exact h4), if_pos h5])
    have HBXn := hide (fun k => below_drewN (unhide HBX) k)
    clear h1 h4
    go_enter Try.func35, Try.ntmps35
    go_wp2_with fail
    rw [← unhide HWX]
    go_quiet (fail)
    go_wp2_with fail
    go_ret2
    rw [unhide HF]
    exact shPost_same ((unhide HX).calm (below_drewN (Below.refl _ _) nq)) (unhide HBXn nq)
  have HF := hide (show holdS s ⟨kind, n, life, id⟩ = (⟨s.free - n, s.used, s.made + 1, s.opn ++ [⟨s.made + 1, n, life⟩]⟩, s.made + 1, 0) by unfold holdS; rw [if_neg h1, if_neg (by rw [← unhide HM]; exact h4), if_neg h5])
  have h5' : n ≤ s.free := by omega
  clear h1 h4 h5
  go_enter Try.func35, Try.ntmps35
  go_wp2_with fail
  rw [← unhide HWX]
  go_quiet (fail)
  go_wp2_with fail
  obtain ⟨wn, hwn⟩ : ∃ wn, wn = wx.drewN nq := ⟨_, rfl⟩
  have hbn : Below wx.heap.size wx wn := by rw [hwn]; exact below_drewN (Below.refl _ _) nq
  have HBN := hide hbn
  have HXN := hide ((unhide HX).calm hbn)
  have k0n := (unhide HK0).below hbn (Blk.lt (unhide HK0))
  rw [← hwn]
  clear q1a q2a c0a c2a c3a c0 c2 c3 f0 q1 q2 hwn hbn
  have e0 := (unhide HXN).c0
  have e2 := (unhide HXN).c2
  have e3 := (unhide HXN).c3
  rw [← unhide HM] at e3
  have f0 := (unhide HXN).fr o
  have f2 := (unhide HXN).fr (o + 2)
  have p1 := k0n.cell 1
  have p2 := k0n.cell 2
  clear k0n
  refine wp_region_draw_tail 9 (by kernel_rfl) (by kernel_rfl) ?_
  simp only [List.take_succ_cons, List.take_zero, List.drop_succ_cons, List.drop_zero]
  repeat (go_big_quiet_step (fail))
  refine wpQuiet_nil ?_
  rintro _ ⟨nq2, rfl⟩
  go_wp2_with fail
  clear e0 e2 e3 f0 f2 p1 p2
  obtain ⟨w2, hw2⟩ : ∃ w2, w2 = ((wn.drewN nq2).setCell ⟨g, o, none⟩ (.int .i64 (s.free - n))).setCell ⟨g, o + 2, none⟩ (.int .i64 (s.made + 1)) := ⟨_, rfl⟩
  rw [← hw2]
  have hx2 := ((ShAt.calm (unhide HXN) (below_drewN (Below.refl _ _) nq2)).free_ (s.free - n)).made_ (s.made + 1)
  rw [← hw2, putAt_put _ _ _ _ (by simp [Shf.cells])] at hx2
  have hO2 : Only (fun k => k = g) wn w2 := by rw [hw2]; exact Only.setCell (D := fun k => k = g) (Only.setCell (D := fun k => k = g) ((Only.refl _ wn).drewN nq2) (p := ⟨g, o, none⟩) (fun _ => rfl) _) (p := ⟨g, o + 2, none⟩) (fun _ => rfl) _
  have k02 := Blk.only ((unhide HK0).below (unhide HBN) (Blk.lt (unhide HK0))) hO2 (Ne.symm hne)
  have HO2 := hide hO2
  have HX2 := hide hx2
  have HOWN := hide (show w2.drew.ownsRow base 96 3 (.slice A s.opn.length c) s.opn.length (s.opn.flatMap Hd.cells) from hx2.own)
  have e2 := hx2.c2
  have e3 := hx2.c3
  rw [← unhide HM] at e3
  have p1 := k02.cell 1
  have p2 := k02.cell 2
  have hg2 : g < w2.heap.size := hx2.blk.lt
  have hB2 : base ≤ w2.heap.size := Nat.le_trans hB (Nat.le_trans (unhide HBX).size (Nat.le_trans (unhide HBN).size hO2.size))
  obtain ⟨i0, hi, hz0, hz1, hz2⟩ := hold_info
  have hMb : (s.opn.length + 1) * 24 ≤ 140737488355328 := by rw [← unhide HM]; omega
  dsimp only at e2
  clear hw2 hx2 k02 hO2
  have ce2 := fun n : Ext w2 => n.cell e2
  have ce3 := fun n : Ext w2 => n.cell e3
  have cp1 := fun n : Ext w2 => n.cell p1
  have cp2 := fun n : Ext w2 => n.cell p2
  clear e2 e3 p1 p2
  refine wp_region_calm_full [0] [1, 2, 3, 4, 5, 6, 7, 8, 9, 10, 11, 12, 13] [] [14] 15 [16, 17, 18] (by kernel_rfl) (by kernel_rfl) (by intro c a d v w h; cases d <;> exact h) ?_
  simp only [pickOps, List.map_cons, List.map_nil, List.getD_cons_zero, List.getD_cons_succ]
  repeat (go_big_quiet_step (fail))
  refine wpQuiet_nil ?_
  repeat (go_big_quiet_step (fail))
  refine wpQuiet_nil (wpQuiet_nil ?_)
  rintro _ ⟨nq3, rfl⟩
  simp only [wpAl]
  go_wp2_with fail
  refine ⟨⟨⟨_, nq3.h.alloc nq3.h.size _⟩, rfl⟩, ?_⟩
  have HX3 := hide (ShAt.calm (unhide HX2) nq3.h)
  have hs3 := nq3.h.size
  go_wp2_with (first
    | (at_builtin; (refine wpList_append_new _ rfl (.tmp 50) (.tmp 60) _ rfl base 96 i0 _ 3 24 Try.underlying49 hi hz0 hz1 hz2 rfl (by omega) (by omega) _ _ _ (unhide HX3).own (by rw [← unhide HM]; rfl) _ 1 _ rfl rfl rfl (by simp [Value.oneCell']) hMb (Nat.le_trans hB2 hs3) ?_); intro g4 cap4 w4 hg4 hown4 hbel4 hgr4 hat4; have hM4 := Blk.grown (unhide HX3).blk hgr4 (Ne.symm (unhide HX3).ne); have hu := hM4.at_ (unhide HX3).has 3 rfl; have hu2 := hM4.at_ (unhide HX3).has 2 rfl; have fu := hM4.frozen (o + 3); have HK4 := hide (And.intro hg4 (And.intro hown4 (And.intro hgr4 (And.intro hat4 hM4)))); clear hg4 hown4 hbel4 hgr4 hat4 hM4))
  go_ret2
  obtain ⟨hg4, hown4, hgr4, hat4, hM4⟩ := unhide HK4
  rw [unhide HF]
  have hfin := ShAt.open_ (l := s.opn ++ [⟨s.made + 1, n, life⟩]) (unhide HX3) hM4 (by rw [List.length_append, List.flatMap_append]; simpa [Hd.cells] using hown4)
  rw [putAt_put _ _ _ _ (by simp [Shf.cells])] at hfin
  refine ⟨_, rfl, hfin, ?_, fun k hk => ?_⟩
  · have h1 : Only (fun k => k = g ∨ Value.ownBlock (.slice A s.opn.length c) = some k) w wx := Only.of_below (unhide HBX) fun x hx hB => by omega
    exact Only.setCell ((((h1.calm (unhide HBN)).trans (unhide HO2) (fun x _ h => .inl h)).calm nq3.h).grown hgr4 (fun x hx _ => .inr hx)) (fun _ => .inl rfl) _
  · have hk' : g4 = k := by simpa [Value.ownBlock] using hk
    rcases hat4 with h1 | h1
    · exact .inl (by rw [← hk', h1])
    · right
      have := (unhide HBX).size
      have := (unhide HBN).size
      have := (unhide HO2).size
      omega
end Go.Proofs.Ytiljallignlbgaa
