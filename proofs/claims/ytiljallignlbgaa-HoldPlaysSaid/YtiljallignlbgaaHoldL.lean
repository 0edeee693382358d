/- Contract of a rack's order (the reference), kind for kind. Conditions: none beyond what each theorem states. (Written by wip/gen/rackorder.py.) -/
import Derived.Test.YtiljallignlbgaaHoldK
import Derived.IntWalk
namespace Go.Proofs.Ytiljallignlbgaa
open Go.RowKit
set_option linter.unusedVariables false

theorem rcounted_no {n : Int} (h : n < 1 ∨ 1048576 < n) (k l i : Int) : countedB ⟨k, n, l, i⟩ = false := by unfold countedB; dsimp only; rcases h with h | h <;> simp <;> omega
theorem rcounted_yes {n : Int} (h1 : 1 ≤ n) (h2 : n ≤ 1048576) (k l i : Int) : countedB ⟨k, n, l, i⟩ = true := by unfold countedB; dsimp only; simp; omega
def RkPost (base g o : Nat) (cs : Array Value) (vc vl : Value) (w : World) (r : Rk × Int × Int) (e : Ending) (w' : World) : Prop :=
  ∃ vc' vl', e = .returned (.tuple #[.int .i64 r.2.1, .int .i64 r.2.2]) ∧ RkAt w' base g o (putAt cs o (r.1.cells vc' vl')) r.1 vc' vl' ∧ Only (RkD g vc vl) w w' ∧ ∀ k, RkD g vc' vl' k → RkD g vc vl k ∨ w.heap.size ≤ k
theorem rkPost_same {base g o : Nat} {cs : Array Value} {r : Rk} {vc vl : Value} {w w' : World} {a b : Int} (h : RkAt w' base g o cs r vc vl) (hb : Below w.heap.size w w') : RkPost base g o cs vc vl w (r, a, b) (.returned (.tuple #[.int .i64 a, .int .i64 b])) w' :=
  ⟨vc, vl, rfl, by rw [putAt_self cs o _ h.has]; exact h, Only.of_below hb fun x hx hB => by omega, fun k hk => .inl hk⟩

set_option maxRecDepth 100000 in
set_option maxHeartbeats 3000000 in
theorem rack1_bad (base g o : Nat) (cs : Array Value) (r : Rk) (vc vl : Value) (w : World) (n life id : Int) (K : Nat) (h : RkAt w base g o cs r vc vl) (hs : r.ok K) (hK : K ≤ 1000000 - 1) (hB : base ≤ w.heap.size) (hc : n < 1 ∨ 1048576 < n) :
    Calls Try.prog 24 #[.pointer (some ⟨g, o, none⟩), (⟨1, n, life, id⟩ : Ordr).val] w (RkPost base g o cs vc vl w (r.order ⟨1, n, life, id⟩)) := by
  unfold Ordr.val
  dsimp only
  obtain ⟨wx, hwx⟩ : ∃ wx, wx = w.alloc (.cells #[.int .i64 1, .int .i64 n, .int .i64 life, .int .i64 id] 53) := ⟨_, rfl⟩
  have hbx : Below w.heap.size w wx := by rw [hwx]; exact (Below.refl _ _).alloc (Nat.le_refl _) _
  have k0 : Blk wx w.heap.size 53 #[.int .i64 1, .int .i64 n, .int .i64 life, .int .i64 id] := by rw [hwx]; exact Blk.new w 53 _
  have hx := h.calm hbx
  have q0 := k0.cell 0
  have q1 := k0.cell 1
  have q2 := k0.cell 2
  have q3 := k0.cell 3
  have c0 := hx.c0
  have c1 := hx.c1
  have q0a := q0
  have q1a := q1
  have q2a := q2
  have q3a := q3
  have c0a := c0
  have c1a := c1
  rw [hwx] at q0a q1a q2a q3a c0a c1a
  have hf0 := hs.free0
  have hu0 := hs.used0
  have hall := hs.all
  have hhb := heldR_bound hs.rows
  obtain ⟨hh0, _⟩ := hhb
  have hh1 : heldR r.rows ≤ 1048576 := by omega
  have hf1 : r.free ≤ 1048576 := by omega
  have hu1 : r.used ≤ 1048576 := by omega
  have hlen := hs.len
  have HX := hide hx
  have HBX := hide hbx
  have HWX := hide hwx
  have HS := hide hs
  have HK0 := hide k0
  have HLT := hide h.lt
  clear hx h hbx hs k0 hwx hall
  have HF := hide (show r.order ⟨1, n, life, id⟩ = (r, 0, 2) by unfold Rk.order; rw [rcounted_no hc]; rfl)
  by_cases hc1 : n < 1
  · have hd1 : decide (n < 1) = true := decide_eq_true hc1
    clear hc
    go_enter Try.func24, Try.ntmps24
    go_wp2_with fail
    go_ret2
    rw [unhide HF, ← unhide HWX]
    exact rkPost_same (unhide HX) (unhide HBX)
  · have hd1 : decide (n < 1) = false := decide_eq_false hc1
    have hd2 : decide (1048576 < n) = true := decide_eq_true (by omega)
    clear hc
    go_enter Try.func24, Try.ntmps24
    go_wp2_with fail
    go_ret2
    rw [unhide HF, ← unhide HWX]
    exact rkPost_same (unhide HX) (unhide HBX)

set_option maxRecDepth 100000 in
set_option maxHeartbeats 3000000 in
theorem rack2_bad (base g o : Nat) (cs : Array Value) (r : Rk) (vc vl : Value) (w : World) (n life id : Int) (K : Nat) (h : RkAt w base g o cs r vc vl) (hs : r.ok K) (hK : K ≤ 1000000 - 1) (hB : base ≤ w.heap.size) (hc : n < 1 ∨ 1048576 < n) :
    Calls Try.prog 24 #[.pointer (some ⟨g, o, none⟩), (⟨2, n, life, id⟩ : Ordr).val] w (RkPost base g o cs vc vl w (r.order ⟨2, n, life, id⟩)) := by
  unfold Ordr.val
  dsimp only
  obtain ⟨wx, hwx⟩ : ∃ wx, wx = w.alloc (.cells #[.int .i64 2, .int .i64 n, .int .i64 life, .int .i64 id] 53) := ⟨_, rfl⟩
  have hbx : Below w.heap.size w wx := by rw [hwx]; exact (Below.refl _ _).alloc (Nat.le_refl _) _
  have k0 : Blk wx w.heap.size 53 #[.int .i64 2, .int .i64 n, .int .i64 life, .int .i64 id] := by rw [hwx]; exact Blk.new w 53 _
  have hx := h.calm hbx
  have q0 := k0.cell 0
  have q1 := k0.cell 1
  have q2 := k0.cell 2
  have q3 := k0.cell 3
  have c0 := hx.c0
  have c1 := hx.c1
  have q0a := q0
  have q1a := q1
  have q2a := q2
  have q3a := q3
  have c0a := c0
  have c1a := c1
  rw [hwx] at q0a q1a q2a q3a c0a c1a
  have hf0 := hs.free0
  have hu0 := hs.used0
  have hall := hs.all
  have hhb := heldR_bound hs.rows
  obtain ⟨hh0, _⟩ := hhb
  have hh1 : heldR r.rows ≤ 1048576 := by omega
  have hf1 : r.free ≤ 1048576 := by omega
  have hu1 : r.used ≤ 1048576 := by omega
  have hlen := hs.len
  have HX := hide hx
  have HBX := hide hbx
  have HWX := hide hwx
  have HS := hide hs
  have HK0 := hide k0
  have HLT := hide h.lt
  clear hx h hbx hs k0 hwx hall
  have HF := hide (show r.order ⟨2, n, life, id⟩ = (r, 0, 2) by unfold Rk.order; rw [rcounted_no hc]; rfl)
  by_cases hc1 : n < 1
  · have hd1 : decide (n < 1) = true := decide_eq_true hc1
    clear hc
    go_enter Try.func24, Try.ntmps24
    go_wp2_with fail
    go_ret2
    rw [unhide HF, ← unhide HWX]
    exact rkPost_same (unhide HX) (unhide HBX)
  · have hd1 : decide (n < 1) = false := decide_eq_false hc1
    have hd2 : decide (1048576 < n) = true := decide_eq_true (by omega)
    clear hc
    go_enter Try.func24, Try.ntmps24
    go_wp2_with fail
    go_ret2
    rw [unhide HF, ← unhide HWX]
    exact rkPost_same (unhide HX) (unhide HBX)

set_option maxRecDepth 100000 in
set_option maxHeartbeats 3000000 in
theorem rack3_bad (base g o : Nat) (cs : Array Value) (r : Rk) (vc vl : Value) (w : World) (n life id : Int) (K : Nat) (h : RkAt w base g o cs r vc vl) (hs : r.ok K) (hK : K ≤ 1000000 - 1) (hB : base ≤ w.heap.size) (hc : n < 1 ∨ 1048576 < n) :
    Calls Try.prog 24 #[.pointer (some ⟨g, o, none⟩), (⟨3, n, life, id⟩ : Ordr).val] w (RkPost base g o cs vc vl w (r.order ⟨3, n, life, id⟩)) := by
  unfold Ordr.val
  dsimp only
  obtain ⟨wx, hwx⟩ : ∃ wx, wx = w.alloc (.cells #[.int .i64 3, .int .i64 n, .int .i64 life, .int .i64 id] 53) := ⟨_, rfl⟩
  have hbx : Below w.heap.size w wx := by rw [hwx]; exact (Below.refl _ _).alloc (Nat.le_refl _) _
  have k0 : Blk wx w.heap.size 53 #[.int .i64 3, .int .i64 n, .int .i64 life, .int .i64 id] := by rw [hwx]; exact Blk.new w 53 _
  have hx := h.calm hbx
  have q0 := k0.cell 0
  have q1 := k0.cell 1
  have q2 := k0.cell 2
  have q3 := k0.cell 3
  have c0 := hx.c0
  have c1 := hx.c1
  have q0a := q0
  have q1a := q1
  have q2a := q2
  have q3a := q3
  have c0a := c0
  have c1a := c1
  rw [hwx] at q0a q1a q2a q3a c0a c1a
  have hf0 := hs.free0
  have hu0 := hs.used0
  have hall := hs.all
  have hhb := heldR_bound hs.rows
  obtain ⟨hh0, _⟩ := hhb
  have hh1 : heldR r.rows ≤ 1048576 := by omega
  have hf1 : r.free ≤ 1048576 := by omega
  have hu1 : r.used ≤ 1048576 := by omega
  have hlen := hs.len
  have HX := hide hx
  have HBX := hide hbx
  have HWX := hide hwx
  have HS := hide hs
  have HK0 := hide k0
  have HLT := hide h.lt
  clear hx h hbx hs k0 hwx hall
  have HF := hide (show r.order ⟨3, n, life, id⟩ = (r, 0, 2) by unfold Rk.order; rw [rcounted_no hc]; rfl)
  by_cases hc1 : n < 1
  · have hd1 : decide (n < 1) = true := decide_eq_true hc1
    clear hc
    go_enter Try.func24, Try.ntmps24
    go_wp2_with fail
    go_ret2
    rw [unhide HF, ← unhide HWX]
    exact rkPost_same (unhide HX) (unhide HBX)
  · have hd1 : decide (n < 1) = false := decide_eq_false hc1
    have hd2 : decide (1048576 < n) = true := decide_eq_true (by omega)
    clear hc
    go_enter Try.func24, Try.ntmps24
    go_wp2_with fail
    go_ret2
    rw [unhide HF, ← unhide HWX]
    exact rkPost_same (unhide HX) (unhide HBX)

set_option maxRecDepth 100000 in
set_option maxHeartbeats 3000000 in
theorem rack6_bad (base g o : Nat) (cs : Array Value) (r : Rk) (vc vl : Value) (w : World) (n life id : Int) (K : Nat) (h : RkAt w base g o cs r vc vl) (hs : r.ok K) (hK : K ≤ 1000000 - 1) (hB : base ≤ w.heap.size) (hc : n < 1 ∨ 1048576 < n) :
    Calls Try.prog 24 #[.pointer (some ⟨g, o, none⟩), (⟨6, n, life, id⟩ : Ordr).val] w (RkPost base g o cs vc vl w (r.order ⟨6, n, life, id⟩)) := by
  unfold Ordr.val
  dsimp only
  obtain ⟨wx, hwx⟩ : ∃ wx, wx = w.alloc (.cells #[.int .i64 6, .int .i64 n, .int .i64 life, .int .i64 id] 53) := ⟨_, rfl⟩
  have hbx : Below w.heap.size w wx := by rw [hwx]; exact (Below.refl _ _).alloc (Nat.le_refl _) _
  have k0 : Blk wx w.heap.size 53 #[.int .i64 6, .int .i64 n, .int .i64 life, .int .i64 id] := by rw [hwx]; exact Blk.new w 53 _
  have hx := h.calm hbx
  have q0 := k0.cell 0
  have q1 := k0.cell 1
  have q2 := k0.cell 2
  have q3 := k0.cell 3
  have c0 := hx.c0
  have c1 := hx.c1
  have q0a := q0
  have q1a := q1
  have q2a := q2
  have q3a := q3
  have c0a := c0
  have c1a := c1
  rw [hwx] at q0a q1a q2a q3a c0a c1a
  have hf0 := hs.free0
  have hu0 := hs.used0
  have hall := hs.all
  have hhb := heldR_bound hs.rows
  obtain ⟨hh0, _⟩ := hhb
  have hh1 : heldR r.rows ≤ 1048576 := by omega
  have hf1 : r.free ≤ 1048576 := by omega
  have hu1 : r.used ≤ 1048576 := by omega
  have hlen := hs.len
  have HX := hide hx
  have HBX := hide hbx
  have HWX := hide hwx
  have HS := hide hs
  have HK0 := hide k0
  have HLT := hide h.lt
  clear hx h hbx hs k0 hwx hall
  have HF := hide (show r.order ⟨6, n, life, id⟩ = (r, 0, 2) by unfold Rk.order; rw [rcounted_no hc]; rfl)
  by_cases hc1 : n < 1
  · have hd1 : decide (n < 1) = true := decide_eq_true hc1
    clear hc
    go_enter Try.func24, Try.ntmps24
    go_wp2_with fail
    go_ret2
    rw [unhide HF, ← unhide HWX]
    exact rkPost_same (unhide HX) (unhide HBX)
  · have hd1 : decide (n < 1) = false := decide_eq_false hc1
    have hd2 : decide (1048576 < n) = true := decide_eq_true (by omega)
    clear hc
    go_enter Try.func24, Try.ntmps24
    go_wp2_with fail
    go_ret2
    rw [unhide HF, ← unhide HWX]
    exact rkPost_same (unhide HX) (unhide HBX)

set_option maxRecDepth 100000 in
set_option maxHeartbeats 3000000 in
theorem rack_kind (base g o : Nat) (cs : Array Value) (r : Rk) (vc vl : Value) (w : World) (kind : Int) (n life id : Int) (K : Nat) (h : RkAt w base g o cs r vc vl) (hs : r.ok K) (hK : K ≤ 1000000 - 1) (hB : base ≤ w.heap.size) (hk : kind < 1 ∨ 7 < kind) :
    Calls Try.prog 24 #[.pointer (some ⟨g, o, none⟩), (⟨kind, n, life, id⟩ : Ordr).val] w (RkPost base g o cs vc vl w (r.order ⟨kind, n, life, id⟩)) := by
  unfold Ordr.val
  dsimp only
  obtain ⟨wx, hwx⟩ : ∃ wx, wx = w.alloc (.cells #[.int .i64 kind, .int .i64 n, .int .i64 life, .int .i64 id] 53) := ⟨_, rfl⟩
  have hbx : Below w.heap.size w wx := by rw [hwx]; exact (Below.refl _ _).alloc (Nat.le_refl _) _
  have k0 : Blk wx w.heap.size 53 #[.int .i64 kind, .int .i64 n, .int .i64 life, .int .i64 id] := by rw [hwx]; exact Blk.new w 53 _
  have hx := h.calm hbx
  have q0 := k0.cell 0
  have q1 := k0.cell 1
  have q2 := k0.cell 2
  have q3 := k0.cell 3
  have c0 := hx.c0
  have c1 := hx.c1
  have q0a := q0
  have q1a := q1
  have q2a := q2
  have q3a := q3
  have c0a := c0
  have c1a := c1
  rw [hwx] at q0a q1a q2a q3a c0a c1a
  have hf0 := hs.free0
  have hu0 := hs.used0
  have hall := hs.all
  have hhb := heldR_bound hs.rows
  obtain ⟨hh0, _⟩ := hhb
  have hh1 : heldR r.rows ≤ 1048576 := by omega
  have hf1 : r.free ≤ 1048576 := by omega
  have hu1 : r.used ≤ 1048576 := by omega
  have hlen := hs.len
  have HX := hide hx
  have HBX := hide hbx
  have HWX := hide hwx
  have HS := hide hs
  have HK0 := hide k0
  have HLT := hide h.lt
  clear hx h hbx hs k0 hwx hall
  have HF := hide (show r.order ⟨kind, n, life, id⟩ = (r, 0, 3) by unfold Rk.order; rw [if_pos hk])
  have e1 : (kind == 1) = false := by simp; omega
  have e2 : (kind == 2) = false := by simp; omega
  have e3 : (kind == 3) = false := by simp; omega
  have e6 : (kind == 6) = false := by simp; omega
  by_cases hk1 : kind < 1
  · have hd1 : decide (kind < 1) = true := decide_eq_true hk1
    clear hk
    go_enter Try.func24, Try.ntmps24
    go_wp2_with fail
    go_ret2
    rw [unhide HF, ← unhide HWX]
    exact rkPost_same (unhide HX) (unhide HBX)
  · have hd1 : decide (kind < 1) = false := decide_eq_false hk1
    have hd2 : decide (7 < kind) = true := decide_eq_true (by omega)
    clear hk
    go_enter Try.func24, Try.ntmps24
    go_wp2_with fail
    go_ret2
    rw [unhide HF, ← unhide HWX]
    exact rkPost_same (unhide HX) (unhide HBX)

set_option maxRecDepth 100000 in
set_option maxHeartbeats 3000000 in
theorem rack1_over (base g o : Nat) (cs : Array Value) (r : Rk) (vc vl : Value) (w : World) (n life id : Int) (K : Nat) (h : RkAt w base g o cs r vc vl) (hs : r.ok K) (hK : K ≤ 1000000 - 1) (hB : base ≤ w.heap.size) (hc1 : 1 ≤ n) (hc2 : n ≤ 1048576) (hov : 1048576 < r.free + heldR r.rows + r.used + n) :
    Calls Try.prog 24 #[.pointer (some ⟨g, o, none⟩), (⟨1, n, life, id⟩ : Ordr).val] w (RkPost base g o cs vc vl w (r.order ⟨1, n, life, id⟩)) := by
  unfold Ordr.val
  dsimp only
  obtain ⟨wx, hwx⟩ : ∃ wx, wx = w.alloc (.cells #[.int .i64 1, .int .i64 n, .int .i64 life, .int .i64 id] 53) := ⟨_, rfl⟩
  have hbx : Below w.heap.size w wx := by rw [hwx]; exact (Below.refl _ _).alloc (Nat.le_refl _) _
  have k0 : Blk wx w.heap.size 53 #[.int .i64 1, .int .i64 n, .int .i64 life, .int .i64 id] := by rw [hwx]; exact Blk.new w 53 _
  have hx := h.calm hbx
  have q0 := k0.cell 0
  have q1 := k0.cell 1
  have q2 := k0.cell 2
  have q3 := k0.cell 3
  have c0 := hx.c0
  have c1 := hx.c1
  have q0a := q0
  have q1a := q1
  have q2a := q2
  have q3a := q3
  have c0a := c0
  have c1a := c1
  rw [hwx] at q0a q1a q2a q3a c0a c1a
  have hf0 := hs.free0
  have hu0 := hs.used0
  have hall := hs.all
  have hhb := heldR_bound hs.rows
  obtain ⟨hh0, _⟩ := hhb
  have hh1 : heldR r.rows ≤ 1048576 := by omega
  have hf1 : r.free ≤ 1048576 := by omega
  have hu1 : r.used ≤ 1048576 := by omega
  have hlen := hs.len
  have HX := hide hx
  have HBX := hide hbx
  have HWX := hide hwx
  have HS := hide hs
  have HK0 := hide k0
  have HLT := hide h.lt
  clear hx h hbx hs k0 hwx hall
  have HF := hide (show r.order ⟨1, n, life, id⟩ = (r, 0, 12) by
    unfold Rk.order
    rw [rcounted_yes hc1 hc2]
    simp [asksCount, hov])
  have HH := hide (fun W (hW : Below wx.heap.size wx W) => (rackHeld_any base g o cs r vc vl W K ((unhide HX).calm hW) (unhide HS) (by omega)).mono (fun e w' (h : e = .returned (.int .i64 (heldR r.rows)) ∧ W = w') => And.intro h.1 (show Below W.heap.size W w' by rw [← h.2]; exact Below.refl _ _)))
  have cc0 := fun n : Ext wx => n.cell c0
  have cc1 := fun n : Ext wx => n.cell c1
  have cq1 := fun n : Ext wx => n.cell q1
  have s1 : IntKind.i64.wrap (r.free + heldR r.rows) = r.free + heldR r.rows := IntWalk.i64_in _ (by omega)
  have s2 : IntKind.i64.wrap (r.free + heldR r.rows + r.used) = r.free + heldR r.rows + r.used := IntWalk.i64_in _ (by omega)
  have s3 : IntKind.i64.wrap (r.free + heldR r.rows + r.used + n) = r.free + heldR r.rows + r.used + n := IntWalk.i64_in _ (by omega)
  have HS123 := hide (And.intro s1 (And.intro s2 s3))
  clear s1 s2 s3
  have hd1 : decide (n < 1) = false := decide_eq_false (by omega)
  have hd2 : decide (1048576 < n) = false := decide_eq_false (by omega)
  go_enter Try.func24, Try.ntmps24
  go_wp2_with fail
  rw [← unhide HWX]
  obtain ⟨s1, s2, s3⟩ := unhide HS123
  refine wp_region_calm (by kernel_rfl) (by kernel_rfl) ?_
  repeat (go_big_quiet_step ((go_at_call 25; exact calm_call (unhide HH _ (Ext.h _)))))
  refine wpQuiet_nil ?_
  rintro _ ⟨nq, rfl⟩
  clear s1 s2 s3
  go_wp2_with fail
  go_ret2
  rw [unhide HF]
  exact rkPost_same ((unhide HX).calm nq.h) ((unhide HBX).trans (nq.h.mono (unhide HBX).size))

set_option maxRecDepth 100000 in
set_option maxHeartbeats 3000000 in
theorem rack1_ok (base g o : Nat) (cs : Array Value) (r : Rk) (vc vl : Value) (w : World) (n life id : Int) (K : Nat) (h : RkAt w base g o cs r vc vl) (hs : r.ok K) (hK : K ≤ 1000000 - 1) (hB : base ≤ w.heap.size) (hc1 : 1 ≤ n) (hc2 : n ≤ 1048576) (hov : r.free + heldR r.rows + r.used + n ≤ 1048576) :
    Calls Try.prog 24 #[.pointer (some ⟨g, o, none⟩), (⟨1, n, life, id⟩ : Ordr).val] w (RkPost base g o cs vc vl w (r.order ⟨1, n, life, id⟩)) := by
  unfold Ordr.val
  dsimp only
  obtain ⟨wx, hwx⟩ : ∃ wx, wx = w.alloc (.cells #[.int .i64 1, .int .i64 n, .int .i64 life, .int .i64 id] 53) := ⟨_, rfl⟩
  have hbx : Below w.heap.size w wx := by rw [hwx]; exact (Below.refl _ _).alloc (Nat.le_refl _) _
  have k0 : Blk wx w.heap.size 53 #[.int .i64 1, .int .i64 n, .int .i64 life, .int .i64 id] := by rw [hwx]; exact Blk.new w 53 _
  have hx := h.calm hbx
  have q0 := k0.cell 0
  have q1 := k0.cell 1
  have q2 := k0.cell 2
  have q3 := k0.cell 3
  have c0 := hx.c0
  have c1 := hx.c1
  have q0a := q0
  have q1a := q1
  have q2a := q2
  have q3a := q3
  have c0a := c0
  have c1a := c1
  rw [hwx] at q0a q1a q2a q3a c0a c1a
  have hf0 := hs.free0
  have hu0 := hs.used0
  have hall := hs.all
  have hhb := heldR_bound hs.rows
  obtain ⟨hh0, _⟩ := hhb
  have hh1 : heldR r.rows ≤ 1048576 := by omega
  have hf1 : r.free ≤ 1048576 := by omega
  have hu1 : r.used ≤ 1048576 := by omega
  have hlen := hs.len
  have HX := hide hx
  have HBX := hide hbx
  have HWX := hide hwx
  have HS := hide hs
  have HK0 := hide k0
  have HLT := hide h.lt
  clear hx h hbx hs k0 hwx hall
  have HF := hide (show r.order ⟨1, n, life, id⟩ = (⟨r.free + n, r.used, r.rows⟩, 0, 0) by
    unfold Rk.order
    rw [rcounted_yes hc1 hc2]
    simp [asksCount, show ¬ 1048576 < r.free + heldR r.rows + r.used + n by omega])
  have HH := hide (fun W (hW : Below wx.heap.size wx W) => (rackHeld_any base g o cs r vc vl W K ((unhide HX).calm hW) (unhide HS) (by omega)).mono (fun e w' (h : e = .returned (.int .i64 (heldR r.rows)) ∧ W = w') => And.intro h.1 (show Below W.heap.size W w' by rw [← h.2]; exact Below.refl _ _)))
  have cc0 := fun n : Ext wx => n.cell c0
  have cc1 := fun n : Ext wx => n.cell c1
  have cq1 := fun n : Ext wx => n.cell q1
  have s1 : IntKind.i64.wrap (r.free + heldR r.rows) = r.free + heldR r.rows := IntWalk.i64_in _ (by omega)
  have s2 : IntKind.i64.wrap (r.free + heldR r.rows + r.used) = r.free + heldR r.rows + r.used := IntWalk.i64_in _ (by omega)
  have s3 : IntKind.i64.wrap (r.free + heldR r.rows + r.used + n) = r.free + heldR r.rows + r.used + n := IntWalk.i64_in _ (by omega)
  have HS123 := hide (And.intro s1 (And.intro s2 s3))
  clear s1 s2 s3
  have hd1 : decide (n < 1) = false := decide_eq_false (by omega)
  have hd2 : decide (1048576 < n) = false := decide_eq_false (by omega)
  go_enter Try.func24, Try.ntmps24
  go_wp2_with fail
  rw [← unhide HWX]
  obtain ⟨s1, s2, s3⟩ := unhide HS123
  refine wp_region_calm (by kernel_rfl) (by kernel_rfl) ?_
  repeat (go_big_quiet_step ((go_at_call 25; exact calm_call (unhide HH _ (Ext.h _)))))
  refine wpQuiet_nil ?_
  rintro _ ⟨nq, rfl⟩
  clear s1 s2 s3
  go_wp2_with fail
  have hx2 := (unhide HX).calm nq.h
  have d0 := hx2.c0
  have f0 := hx2.fr o
  have k2 := (unhide HK0).below nq.h (unhide HK0).lt
  have r1 := k2.cell 1
  have HX2 := hide hx2
  clear hx2 k2
  refine wp_region_draw_tail 9 (by kernel_rfl) (by kernel_rfl) ?_
  simp only [List.take_succ_cons, List.take_zero, List.drop_succ_cons, List.drop_zero]
  repeat (go_big_quiet_step (fail))
  refine wpQuiet_nil ?_
  rintro _ ⟨nq2, rfl⟩
  go_wp2_with fail
  go_ret2
  rw [unhide HF]
  refine ⟨vc, vl, rfl, ((unhide HX2).calm (below_drewN (Below.refl _ _) nq2)).free_ (r.free + n), ?_, fun k hk => .inl hk⟩
  have h1 : Only (RkD g vc vl) w wx := Only.of_below (unhide HBX) fun x hx hB => by omega
  exact Only.setCell (((h1.calm nq.h).drewN nq2)) (fun _ => .inl rfl) _

set_option maxRecDepth 100000 in
set_option maxHeartbeats 3000000 in
theorem rack2_less (base g o : Nat) (cs : Array Value) (r : Rk) (vc vl : Value) (w : World) (n life id : Int) (K : Nat) (h : RkAt w base g o cs r vc vl) (hs : r.ok K) (hK : K ≤ 1000000 - 1) (hB : base ≤ w.heap.size) (hc1 : 1 ≤ n) (hc2 : n ≤ 1048576) (hls : r.free < n) :
    Calls Try.prog 24 #[.pointer (some ⟨g, o, none⟩), (⟨2, n, life, id⟩ : Ordr).val] w (RkPost base g o cs vc vl w (r.order ⟨2, n, life, id⟩)) := by
  unfold Ordr.val
  dsimp only
  obtain ⟨wx, hwx⟩ : ∃ wx, wx = w.alloc (.cells #[.int .i64 2, .int .i64 n, .int .i64 life, .int .i64 id] 53) := ⟨_, rfl⟩
  have hbx : Below w.heap.size w wx := by rw [hwx]; exact (Below.refl _ _).alloc (Nat.le_refl _) _
  have k0 : Blk wx w.heap.size 53 #[.int .i64 2, .int .i64 n, .int .i64 life, .int .i64 id] := by rw [hwx]; exact Blk.new w 53 _
  have hx := h.calm hbx
  have q0 := k0.cell 0
  have q1 := k0.cell 1
  have q2 := k0.cell 2
  have q3 := k0.cell 3
  have c0 := hx.c0
  have c1 := hx.c1
  have q0a := q0
  have q1a := q1
  have q2a := q2
  have q3a := q3
  have c0a := c0
  have c1a := c1
  rw [hwx] at q0a q1a q2a q3a c0a c1a
  have hf0 := hs.free0
  have hu0 := hs.used0
  have hall := hs.all
  have hhb := heldR_bound hs.rows
  obtain ⟨hh0, _⟩ := hhb
  have hh1 : heldR r.rows ≤ 1048576 := by omega
  have hf1 : r.free ≤ 1048576 := by omega
  have hu1 : r.used ≤ 1048576 := by omega
  have hlen := hs.len
  have HX := hide hx
  have HBX := hide hbx
  have HWX := hide hwx
  have HS := hide hs
  have HK0 := hide k0
  have HLT := hide h.lt
  clear hx h hbx hs k0 hwx hall
  have HF := hide (show r.order ⟨2, n, life, id⟩ = (r, 0, 9) by
    unfold Rk.order
    rw [rcounted_yes hc1 hc2]
    simp [asksCount, hls])
  have hd1 : decide (n < 1) = false := decide_eq_false (by omega)
  have hd2 : decide (1048576 < n) = false := decide_eq_false (by omega)
  go_enter Try.func24, Try.ntmps24
  go_wp2_with fail
  rw [← unhide HWX]
  go_quiet (fail)
  go_wp2_with fail
  go_ret2
  rw [unhide HF]
  exact rkPost_same ((unhide HX).calm (below_drewN (Below.refl _ _) nq)) (below_drewN (unhide HBX) nq)

set_option maxRecDepth 100000 in
set_option maxHeartbeats 3000000 in
theorem rack2_ok (base g o : Nat) (cs : Array Value) (r : Rk) (vc vl : Value) (w : World) (n life id : Int) (K : Nat) (h : RkAt w base g o cs r vc vl) (hs : r.ok K) (hK : K ≤ 1000000 - 1) (hB : base ≤ w.heap.size) (hc1 : 1 ≤ n) (hc2 : n ≤ 1048576) (hls : n ≤ r.free) :
    Calls Try.prog 24 #[.pointer (some ⟨g, o, none⟩), (⟨2, n, life, id⟩ : Ordr).val] w (RkPost base g o cs vc vl w (r.order ⟨2, n, life, id⟩)) := by
  unfold Ordr.val
  dsimp only
  obtain ⟨wx, hwx⟩ : ∃ wx, wx = w.alloc (.cells #[.int .i64 2, .int .i64 n, .int .i64 life, .int .i64 id] 53) := ⟨_, rfl⟩
  have hbx : Below w.heap.size w wx := by rw [hwx]; exact (Below.refl _ _).alloc (Nat.le_refl _) _
  have k0 : Blk wx w.heap.size 53 #[.int .i64 2, .int .i64 n, .int .i64 life, .int .i64 id] := by rw [hwx]; exact Blk.new w 53 _
  have hx := h.calm hbx
  have q0 := k0.cell 0
  have q1 := k0.cell 1
  have q2 := k0.cell 2
  have q3 := k0.cell 3
  have c0 := hx.c0
  have c1 := hx.c1
  have q0a := q0
  have q1a := q1
  have q2a := q2
  have q3a := q3
  have c0a := c0
  have c1a := c1
  rw [hwx] at q0a q1a q2a q3a c0a c1a
  have hf0 := hs.free0
  have hu0 := hs.used0
  have hall := hs.all
  have hhb := heldR_bound hs.rows
  obtain ⟨hh0, _⟩ := hhb
  have hh1 : heldR r.rows ≤ 1048576 := by omega
  have hf1 : r.free ≤ 1048576 := by omega
  have hu1 : r.used ≤ 1048576 := by omega
  have hlen := hs.len
  have HX := hide hx
  have HBX := hide hbx
  have HWX := hide hwx
  have HS := hide hs
  have HK0 := hide k0
  have HLT := hide h.lt
  clear hx h hbx hs k0 hwx hall
  have HF := hide (show r.order ⟨2, n, life, id⟩ = (⟨r.free - n, r.used + n, r.rows⟩, 0, 0) by
    unfold Rk.order
    rw [rcounted_yes hc1 hc2]
    simp [asksCount, show ¬ r.free < n by omega])
  have hd1 : decide (n < 1) = false := decide_eq_false (by omega)
  have hd2 : decide (1048576 < n) = false := decide_eq_false (by omega)
  go_enter Try.func24, Try.ntmps24
  go_wp2_with fail
  rw [← unhide HWX]
  go_quiet (fail)
  go_wp2_with fail
  clear q0a q1a q2a q3a c0a c1a
  have f0 : wx.frozen? ⟨g, o, none⟩ = false := (unhide HX).fr o
  refine wp_region_draw_tail 9 (by kernel_rfl) (by kernel_rfl) ?_
  simp only [List.take_succ_cons, List.take_zero, List.drop_succ_cons, List.drop_zero]
  repeat (go_big_quiet_step (fail))
  refine wpQuiet_nil ?_
  rintro _ ⟨nq2, rfl⟩
  go_wp2_with fail
  obtain ⟨w2, hw2⟩ : ∃ w2, w2 = ((wx.drewN nq).drewN nq2).setCell ⟨g, o, none⟩ (.int .i64 (r.free - n)) := ⟨_, rfl⟩
  have hx2 := RkAt.free_ ((unhide HX).calm (below_drewN (below_drewN (Below.refl _ _) nq) nq2)) (r.free - n)
  rw [← hw2] at hx2
  have hO2 : Only (fun k => k = g) wx w2 := by rw [hw2]; exact only_put (((Only.refl _ wx).drewN nq).drewN nq2) _ _
  have k2 := (unhide HK0).only hO2 (fun e => by have := unhide HLT g (.inl rfl); omega)
  have d1 := hx2.c1
  have p1 := k2.cell 1
  have f1 := hx2.fr (o + 1)
  have HX2 := hide hx2
  have HO2 := hide hO2
  first | rw [← hw2] | (rw [World.drewN_drewN] at hw2; rw [← hw2])
  clear hx2 hO2 k2 hw2 c0 c1 q0 q1 q2 q3 f0
  refine wp_region_draw_tail 9 (by kernel_rfl) (by kernel_rfl) ?_
  simp only [List.take_succ_cons, List.take_zero, List.drop_succ_cons, List.drop_zero]
  repeat (go_big_quiet_step (fail))
  refine wpQuiet_nil ?_
  rintro _ ⟨nq3, rfl⟩
  go_wp2_with fail
  go_ret2
  rw [unhide HF]
  have hfin := ((unhide HX2).calm (below_drewN (Below.refl _ _) nq3)).used_ (r.used + n)
  rw [putAt_put _ _ _ _ (by simp [Rk.cells])] at hfin
  refine ⟨vc, vl, rfl, hfin, ?_, fun k hk => .inl hk⟩
  have h1 : Only (RkD g vc vl) w wx := Only.of_below (unhide HBX) fun x hx hB => by omega
  exact Only.setCell ((h1.trans (unhide HO2) (fun x _ h => .inl h)).drewN nq3) (fun _ => .inl rfl) _

set_option maxRecDepth 100000 in
set_option maxHeartbeats 3000000 in
theorem rack6_less (base g o : Nat) (cs : Array Value) (r : Rk) (vc vl : Value) (w : World) (n life id : Int) (K : Nat) (h : RkAt w base g o cs r vc vl) (hs : r.ok K) (hK : K ≤ 1000000 - 1) (hB : base ≤ w.heap.size) (hc1 : 1 ≤ n) (hc2 : n ≤ 1048576) (hls : r.used < n) :
    Calls Try.prog 24 #[.pointer (some ⟨g, o, none⟩), (⟨6, n, life, id⟩ : Ordr).val] w (RkPost base g o cs vc vl w (r.order ⟨6, n, life, id⟩)) := by
  unfold Ordr.val
  dsimp only
  obtain ⟨wx, hwx⟩ : ∃ wx, wx = w.alloc (.cells #[.int .i64 6, .int .i64 n, .int .i64 life, .int .i64 id] 53) := ⟨_, rfl⟩
  have hbx : Below w.heap.size w wx := by rw [hwx]; exact (Below.refl _ _).alloc (Nat.le_refl _) _
  have k0 : Blk wx w.heap.size 53 #[.int .i64 6, .int .i64 n, .int .i64 life, .int .i64 id] := by rw [hwx]; exact Blk.new w 53 _
  have hx := h.calm hbx
  have q0 := k0.cell 0
  have q1 := k0.cell 1
  have q2 := k0.cell 2
  have q3 := k0.cell 3
  have c0 := hx.c0
  have c1 := hx.c1
  have q0a := q0
  have q1a := q1
  have q2a := q2
  have q3a := q3
  have c0a := c0
  have c1a := c1
  rw [hwx] at q0a q1a q2a q3a c0a c1a
  have hf0 := hs.free0
  have hu0 := hs.used0
  have hall := hs.all
  have hhb := heldR_bound hs.rows
  obtain ⟨hh0, _⟩ := hhb
  have hh1 : heldR r.rows ≤ 1048576 := by omega
  have hf1 : r.free ≤ 1048576 := by omega
  have hu1 : r.used ≤ 1048576 := by omega
  have hlen := hs.len
  have HX := hide hx
  have HBX := hide hbx
  have HWX := hide hwx
  have HS := hide hs
  have HK0 := hide k0
  have HLT := hide h.lt
  clear hx h hbx hs k0 hwx hall
  have HF := hide (show r.order ⟨6, n, life, id⟩ = (r, 0, 9) by
    unfold Rk.order
    rw [rcounted_yes hc1 hc2]
    simp [asksCount, hls])
  have hd1 : decide (n < 1) = false := decide_eq_false (by omega)
  have hd2 : decide (1048576 < n) = false := decide_eq_false (by omega)
  go_enter Try.func24, Try.ntmps24
  go_wp2_with fail
  rw [← unhide HWX]
  go_quiet (fail)
  go_wp2_with fail
  go_ret2
  rw [unhide HF]
  exact rkPost_same ((unhide HX).calm (below_drewN (Below.refl _ _) nq)) (below_drewN (unhide HBX) nq)

set_option maxRecDepth 100000 in
set_option maxHeartbeats 3000000 in
theorem rack6_ok (base g o : Nat) (cs : Array Value) (r : Rk) (vc vl : Value) (w : World) (n life id : Int) (K : Nat) (h : RkAt w base g o cs r vc vl) (hs : r.ok K) (hK : K ≤ 1000000 - 1) (hB : base ≤ w.heap.size) (hc1 : 1 ≤ n) (hc2 : n ≤ 1048576) (hls : n ≤ r.used) :
    Calls Try.prog 24 #[.pointer (some ⟨g, o, none⟩), (⟨6, n, life, id⟩ : Ordr).val] w (RkPost base g o cs vc vl w (r.order ⟨6, n, life, id⟩)) := by
  unfold Ordr.val
  dsimp only
  obtain ⟨wx, hwx⟩ : ∃ wx, wx = w.alloc (.cells #[.int .i64 6, .int .i64 n, .int .i64 life, .int .i64 id] 53) := ⟨_, rfl⟩
  have hbx : Below w.heap.size w wx := by rw [hwx]; exact (Below.refl _ _).alloc (Nat.le_refl _) _
  have k0 : Blk wx w.heap.size 53 #[.int .i64 6, .int .i64 n, .int .i64 life, .int .i64 id] := by rw [hwx]; exact Blk.new w 53 _
  have hx := h.calm hbx
  have q0 := k0.cell 0
  have q1 := k0.cell 1
  have q2 := k0.cell 2
  have q3 := k0.cell 3
  have c0 := hx.c0
  have c1 := hx.c1
  have q0a := q0
  have q1a := q1
  have q2a := q2
  have q3a := q3
  have c0a := c0
  have c1a := c1
  rw [hwx] at q0a q1a q2a q3a c0a c1a
  have hf0 := hs.free0
  have hu0 := hs.used0
  have hall := hs.all
  have hhb := heldR_bound hs.rows
  obtain ⟨hh0, _⟩ := hhb
  have hh1 : heldR r.rows ≤ 1048576 := by omega
  have hf1 : r.free ≤ 1048576 := by omega
  have hu1 : r.used ≤ 1048576 := by omega
  have hlen := hs.len
  have HX := hide hx
  have HBX := hide hbx
  have HWX := hide hwx
  have HS := hide hs
  have HK0 := hide k0
  have HLT := hide h.lt
  clear hx h hbx hs k0 hwx hall
  have HF := hide (show r.order ⟨6, n, life, id⟩ = (⟨r.free + n, r.used - n, r.rows⟩, 0, 0) by
    unfold Rk.order
    rw [rcounted_yes hc1 hc2]
    simp [asksCount, show ¬ r.used < n by omega])
  have hd1 : decide (n < 1) = false := decide_eq_false (by omega)
  have hd2 : decide (1048576 < n) = false := decide_eq_false (by omega)
  go_enter Try.func24, Try.ntmps24
  go_wp2_with fail
  rw [← unhide HWX]
  go_quiet (fail)
  go_wp2_with fail
  clear q0a q1a q2a q3a c0a c1a
  have f0 : wx.frozen? ⟨g, o, none⟩ = false := (unhide HX).fr o
  refine wp_region_draw_tail 9 (by kernel_rfl) (by kernel_rfl) ?_
  simp only [List.take_succ_cons, List.take_zero, List.drop_succ_cons, List.drop_zero]
  repeat (go_big_quiet_step (fail))
  refine wpQuiet_nil ?_
  rintro _ ⟨nq2, rfl⟩
  go_wp2_with fail
  obtain ⟨w2, hw2⟩ : ∃ w2, w2 = ((wx.drewN nq).drewN nq2).setCell ⟨g, o, none⟩ (.int .i64 (r.free + n)) := ⟨_, rfl⟩
  have hx2 := RkAt.free_ ((unhide HX).calm (below_drewN (below_drewN (Below.refl _ _) nq) nq2)) (r.free + n)
  rw [← hw2] at hx2
  have hO2 : Only (fun k => k = g) wx w2 := by rw [hw2]; exact only_put (((Only.refl _ wx).drewN nq).drewN nq2) _ _
  have k2 := (unhide HK0).only hO2 (fun e => by have := unhide HLT g (.inl rfl); omega)
  have d1 := hx2.c1
  have p1 := k2.cell 1
  have f1 := hx2.fr (o + 1)
  have HX2 := hide hx2
  have HO2 := hide hO2
  first | rw [← hw2] | (rw [World.drewN_drewN] at hw2; rw [← hw2])
  clear hx2 hO2 k2 hw2 c0 c1 q0 q1 q2 q3 f0
  refine wp_region_draw_tail 9 (by kernel_rfl) (by kernel_rfl) ?_
  simp only [List.take_succ_cons, List.take_zero, List.drop_succ_cons, List.drop_zero]
  repeat (go_big_quiet_step (fail))
  refine wpQuiet_nil ?_
  rintro _ ⟨nq3, rfl⟩
  go_wp2_with fail
  go_ret2
  rw [unhide HF]
  have hfin := ((unhide HX2).calm (below_drewN (Below.refl _ _) nq3)).used_ (r.used - n)
  rw [putAt_put _ _ _ _ (by simp [Rk.cells])] at hfin
  refine ⟨vc, vl, rfl, hfin, ?_, fun k hk => .inl hk⟩
  have h1 : Only (RkD g vc vl) w wx := Only.of_below (unhide HBX) fun x hx hB => by omega
  exact Only.setCell ((h1.trans (unhide HO2) (fun x _ h => .inl h)).drewN nq3) (fun _ => .inl rfl) _
end Go.Proofs.Ytiljallignlbgaa
