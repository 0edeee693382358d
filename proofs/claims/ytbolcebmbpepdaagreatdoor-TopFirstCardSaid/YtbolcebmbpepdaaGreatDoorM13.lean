/- Contracts and plain facts, set together by program out of smaller texts. Conditions: none beyond what each theorem states. -/
import Derived.Test.YtbolcebmbpepdaaGreatDoorM12
import Derived.Test.YtbolcebmbpepdaaGreatDoorM01
namespace Go.Proofs.YtbolcebmbpepdaaGreatDoor
set_option linter.unusedVariables false
section
open Go.RowKit
theorem counted_no {n : Int} (h : n < 1 ∨ 1048576 < n) (k l i : Int) : countedB ⟨k, n, l, i⟩ = false := by unfold countedB; dsimp only; rcases h with h | h <;> simp <;> omega
theorem counted_yes {n : Int} (h1 : 1 ≤ n) (h2 : n ≤ 1048576) (k l i : Int) : countedB ⟨k, n, l, i⟩ = true := by unfold countedB; dsimp only; simp; omega
theorem ok_free {s : Shf} {K : Int} (h : s.ok K) : s.free ≤ 1048576 ∧ s.used ≤ 1048576 ∧ 0 ≤ heldL s.opn ∧ heldL s.opn ≤ 1048576 := by
 have a1 := h.all
 have a2 := h.used0
 have a3 := h.free0
 have a4 : 0 ≤ heldL s.opn := heldL_nonneg fun x hx => by have := h.each x hx; omega
 omega
set_option maxRecDepth 100000 in
set_option maxHeartbeats 2000000 in
theorem order1_bad (base g o : Nat) (cs : Array Value) (s : Shf) (v : Value) (w : World) (n life id K : Int) (h : ShAt w base g o cs s v) (hs : s.ok K) (hK : K ≤ 1000000) (hB : base ≤ w.heap.size) (hc : n < 1 ∨ 1048576 < n) :
    Calls Tryz.prog 102 #[.pointer (some ⟨g, o, none⟩), (⟨1, n, life, id⟩ : Ordr).val] w (ShPost base g o cs v w (s.order ⟨1, n, life, id⟩)) := by
 unfold Ordr.val
 dsimp only
 obtain ⟨wx, hwx⟩ : ∃ wx, wx = w.alloc (.cells #[.int .i64 1, .int .i64 n, .int .i64 life, .int .i64 id] 130) := ⟨_, rfl⟩
 have hbx : Below w.heap.size w wx := by rw [hwx]; exact (Below.refl _ _).alloc (Nat.le_refl _) _
 have k0 : Blk wx w.heap.size 130 #[.int .i64 1, .int .i64 n, .int .i64 life, .int .i64 id] := by rw [hwx]; exact Blk.new w 130 _
 have hx := h.calm hbx
 have q0 := k0.cell 0
 have q1 := k0.cell 1
 have q2 := k0.cell 2
 have q3 := k0.cell 3
 have c0 := hx.c0
 have c1 := hx.c1
 have c3 := hx.c3
 have q0a := q0
 have q1a := q1
 have q2a := q2
 have q3a := q3
 have c3a := c3
 rw [hwx] at q0a q1a q2a q3a c3a
 have hf0 := hs.free0
 have hu0 := hs.used0
 obtain ⟨hf1, hu1, hh0, hh1⟩ := ok_free hs
 have hll := hs.len
 have HX := hide hx
 have HBX := hide hbx
 have HWX := hide hwx
 have HS := hide hs
 obtain ⟨A, c, rfl, hnc⟩ := own_slice h.own
 have HK0 := hide k0
 have HNE := hide (show g ≠ w.heap.size by have := h.blk.lt; omega)
 obtain ⟨m, hm⟩ : ∃ m, m = s.opn.length := ⟨_, rfl⟩
 have HM := hide hm
 rw [← hm] at c3 c3a hll hnc
 clear hx h hbx hs k0 hwx hm
 have HF := hide (show s.order ⟨1, n, life, id⟩ = (s, 0, 2) by unfold Shf.order; rw [counted_no hc]; rfl)
 rcases hc with hc | hc
 ·have hd1 : decide (1 ≤ n) = false := decide_eq_false (by omega)
  go_enter Tryz.func102, Tryz.ntmps102
  go_wp2_with fail
  go_ret2
  rw [unhide HF, ← unhide HWX]
  exact shPost_same (unhide HX) (unhide HBX)
 ·have hc1 : 1 ≤ n := by omega
  have hd1 : decide (1 ≤ n) = true := decide_eq_true (by omega)
  have hd2 : decide (n ≤ 1048576) = false := decide_eq_false (by omega)
  go_enter Tryz.func102, Tryz.ntmps102
  go_wp2_with fail
  go_ret2
  rw [unhide HF, ← unhide HWX]
  exact shPost_same (unhide HX) (unhide HBX)
set_option maxRecDepth 100000 in
set_option maxHeartbeats 2000000 in
theorem order2_bad (base g o : Nat) (cs : Array Value) (s : Shf) (v : Value) (w : World) (n life id K : Int) (h : ShAt w base g o cs s v) (hs : s.ok K) (hK : K ≤ 1000000) (hB : base ≤ w.heap.size) (hc : n < 1 ∨ 1048576 < n) :
    Calls Tryz.prog 102 #[.pointer (some ⟨g, o, none⟩), (⟨2, n, life, id⟩ : Ordr).val] w (ShPost base g o cs v w (s.order ⟨2, n, life, id⟩)) := by
 unfold Ordr.val
 dsimp only
 obtain ⟨wx, hwx⟩ : ∃ wx, wx = w.alloc (.cells #[.int .i64 2, .int .i64 n, .int .i64 life, .int .i64 id] 130) := ⟨_, rfl⟩
 have hbx : Below w.heap.size w wx := by rw [hwx]; exact (Below.refl _ _).alloc (Nat.le_refl _) _
 have k0 : Blk wx w.heap.size 130 #[.int .i64 2, .int .i64 n, .int .i64 life, .int .i64 id] := by rw [hwx]; exact Blk.new w 130 _
 have hx := h.calm hbx
 have q0 := k0.cell 0
 have q1 := k0.cell 1
 have q2 := k0.cell 2
 have q3 := k0.cell 3
 have c0 := hx.c0
 have c1 := hx.c1
 have c3 := hx.c3
 have q0a := q0
 have q1a := q1
 have q2a := q2
 have q3a := q3
 have c3a := c3
 rw [hwx] at q0a q1a q2a q3a c3a
 have hf0 := hs.free0
 have hu0 := hs.used0
 obtain ⟨hf1, hu1, hh0, hh1⟩ := ok_free hs
 have hll := hs.len
 have HX := hide hx
 have HBX := hide hbx
 have HWX := hide hwx
 have HS := hide hs
 obtain ⟨A, c, rfl, hnc⟩ := own_slice h.own
 have HK0 := hide k0
 have HNE := hide (show g ≠ w.heap.size by have := h.blk.lt; omega)
 obtain ⟨m, hm⟩ : ∃ m, m = s.opn.length := ⟨_, rfl⟩
 have HM := hide hm
 rw [← hm] at c3 c3a hll hnc
 clear hx h hbx hs k0 hwx hm
 have HF := hide (show s.order ⟨2, n, life, id⟩ = (s, 0, 2) by unfold Shf.order; rw [counted_no hc]; rfl)
 rcases hc with hc | hc
 ·have hd1 : decide (1 ≤ n) = false := decide_eq_false (by omega)
  go_enter Tryz.func102, Tryz.ntmps102
  go_wp2_with fail
  go_ret2
  rw [unhide HF, ← unhide HWX]
  exact shPost_same (unhide HX) (unhide HBX)
 ·have hc1 : 1 ≤ n := by omega
  have hd1 : decide (1 ≤ n) = true := decide_eq_true (by omega)
  have hd2 : decide (n ≤ 1048576) = false := decide_eq_false (by omega)
  go_enter Tryz.func102, Tryz.ntmps102
  go_wp2_with fail
  go_ret2
  rw [unhide HF, ← unhide HWX]
  exact shPost_same (unhide HX) (unhide HBX)
set_option maxRecDepth 100000 in
set_option maxHeartbeats 2000000 in
theorem order3_bad (base g o : Nat) (cs : Array Value) (s : Shf) (v : Value) (w : World) (n life id K : Int) (h : ShAt w base g o cs s v) (hs : s.ok K) (hK : K ≤ 1000000) (hB : base ≤ w.heap.size) (hc : n < 1 ∨ 1048576 < n) :
    Calls Tryz.prog 102 #[.pointer (some ⟨g, o, none⟩), (⟨3, n, life, id⟩ : Ordr).val] w (ShPost base g o cs v w (s.order ⟨3, n, life, id⟩)) := by
 unfold Ordr.val
 dsimp only
 obtain ⟨wx, hwx⟩ : ∃ wx, wx = w.alloc (.cells #[.int .i64 3, .int .i64 n, .int .i64 life, .int .i64 id] 130) := ⟨_, rfl⟩
 have hbx : Below w.heap.size w wx := by rw [hwx]; exact (Below.refl _ _).alloc (Nat.le_refl _) _
 have k0 : Blk wx w.heap.size 130 #[.int .i64 3, .int .i64 n, .int .i64 life, .int .i64 id] := by rw [hwx]; exact Blk.new w 130 _
 have hx := h.calm hbx
 have q0 := k0.cell 0
 have q1 := k0.cell 1
 have q2 := k0.cell 2
 have q3 := k0.cell 3
 have c0 := hx.c0
 have c1 := hx.c1
 have c3 := hx.c3
 have q0a := q0
 have q1a := q1
 have q2a := q2
 have q3a := q3
 have c3a := c3
 rw [hwx] at q0a q1a q2a q3a c3a
 have hf0 := hs.free0
 have hu0 := hs.used0
 obtain ⟨hf1, hu1, hh0, hh1⟩ := ok_free hs
 have hll := hs.len
 have HX := hide hx
 have HBX := hide hbx
 have HWX := hide hwx
 have HS := hide hs
 obtain ⟨A, c, rfl, hnc⟩ := own_slice h.own
 have HK0 := hide k0
 have HNE := hide (show g ≠ w.heap.size by have := h.blk.lt; omega)
 obtain ⟨m, hm⟩ : ∃ m, m = s.opn.length := ⟨_, rfl⟩
 have HM := hide hm
 rw [← hm] at c3 c3a hll hnc
 clear hx h hbx hs k0 hwx hm
 have HF := hide (show s.order ⟨3, n, life, id⟩ = (s, 0, 2) by unfold Shf.order; rw [counted_no hc]; rfl)
 rcases hc with hc | hc
 ·have hd1 : decide (1 ≤ n) = false := decide_eq_false (by omega)
  go_enter Tryz.func102, Tryz.ntmps102
  go_wp2_with fail
  go_ret2
  rw [unhide HF, ← unhide HWX]
  exact shPost_same (unhide HX) (unhide HBX)
 ·have hc1 : 1 ≤ n := by omega
  have hd1 : decide (1 ≤ n) = true := decide_eq_true (by omega)
  have hd2 : decide (n ≤ 1048576) = false := decide_eq_false (by omega)
  go_enter Tryz.func102, Tryz.ntmps102
  go_wp2_with fail
  go_ret2
  rw [unhide HF, ← unhide HWX]
  exact shPost_same (unhide HX) (unhide HBX)
set_option maxRecDepth 100000 in
set_option maxHeartbeats 2000000 in
theorem order6_bad (base g o : Nat) (cs : Array Value) (s : Shf) (v : Value) (w : World) (n life id K : Int) (h : ShAt w base g o cs s v) (hs : s.ok K) (hK : K ≤ 1000000) (hB : base ≤ w.heap.size) (hc : n < 1 ∨ 1048576 < n) :
    Calls Tryz.prog 102 #[.pointer (some ⟨g, o, none⟩), (⟨6, n, life, id⟩ : Ordr).val] w (ShPost base g o cs v w (s.order ⟨6, n, life, id⟩)) := by
 unfold Ordr.val
 dsimp only
 obtain ⟨wx, hwx⟩ : ∃ wx, wx = w.alloc (.cells #[.int .i64 6, .int .i64 n, .int .i64 life, .int .i64 id] 130) := ⟨_, rfl⟩
 have hbx : Below w.heap.size w wx := by rw [hwx]; exact (Below.refl _ _).alloc (Nat.le_refl _) _
 have k0 : Blk wx w.heap.size 130 #[.int .i64 6, .int .i64 n, .int .i64 life, .int .i64 id] := by rw [hwx]; exact Blk.new w 130 _
 have hx := h.calm hbx
 have q0 := k0.cell 0
 have q1 := k0.cell 1
 have q2 := k0.cell 2
 have q3 := k0.cell 3
 have c0 := hx.c0
 have c1 := hx.c1
 have c3 := hx.c3
 have q0a := q0
 have q1a := q1
 have q2a := q2
 have q3a := q3
 have c3a := c3
 rw [hwx] at q0a q1a q2a q3a c3a
 have hf0 := hs.free0
 have hu0 := hs.used0
 obtain ⟨hf1, hu1, hh0, hh1⟩ := ok_free hs
 have hll := hs.len
 have HX := hide hx
 have HBX := hide hbx
 have HWX := hide hwx
 have HS := hide hs
 obtain ⟨A, c, rfl, hnc⟩ := own_slice h.own
 have HK0 := hide k0
 have HNE := hide (show g ≠ w.heap.size by have := h.blk.lt; omega)
 obtain ⟨m, hm⟩ : ∃ m, m = s.opn.length := ⟨_, rfl⟩
 have HM := hide hm
 rw [← hm] at c3 c3a hll hnc
 clear hx h hbx hs k0 hwx hm
 have HF := hide (show s.order ⟨6, n, life, id⟩ = (s, 0, 2) by unfold Shf.order; rw [counted_no hc]; rfl)
 rcases hc with hc | hc
 ·have hd1 : decide (1 ≤ n) = false := decide_eq_false (by omega)
  go_enter Tryz.func102, Tryz.ntmps102
  go_wp2_with fail
  go_ret2
  rw [unhide HF, ← unhide HWX]
  exact shPost_same (unhide HX) (unhide HBX)
 ·have hc1 : 1 ≤ n := by omega
  have hd1 : decide (1 ≤ n) = true := decide_eq_true (by omega)
  have hd2 : decide (n ≤ 1048576) = false := decide_eq_false (by omega)
  go_enter Tryz.func102, Tryz.ntmps102
  go_wp2_with fail
  go_ret2
  rw [unhide HF, ← unhide HWX]
  exact shPost_same (unhide HX) (unhide HBX)
set_option maxRecDepth 100000 in
set_option maxHeartbeats 2000000 in
theorem order_kind (base g o : Nat) (cs : Array Value) (s : Shf) (v : Value) (w : World) (kind : Int) (n life id K : Int) (h : ShAt w base g o cs s v) (hs : s.ok K) (hK : K ≤ 1000000) (hB : base ≤ w.heap.size) (hk : kind < 1 ∨ 7 < kind) :
    Calls Tryz.prog 102 #[.pointer (some ⟨g, o, none⟩), (⟨kind, n, life, id⟩ : Ordr).val] w (ShPost base g o cs v w (s.order ⟨kind, n, life, id⟩)) := by
 unfold Ordr.val
 dsimp only
 obtain ⟨wx, hwx⟩ : ∃ wx, wx = w.alloc (.cells #[.int .i64 kind, .int .i64 n, .int .i64 life, .int .i64 id] 130) := ⟨_, rfl⟩
 have hbx : Below w.heap.size w wx := by rw [hwx]; exact (Below.refl _ _).alloc (Nat.le_refl _) _
 have k0 : Blk wx w.heap.size 130 #[.int .i64 kind, .int .i64 n, .int .i64 life, .int .i64 id] := by rw [hwx]; exact Blk.new w 130 _
 have hx := h.calm hbx
 have q0 := k0.cell 0
 have q1 := k0.cell 1
 have q2 := k0.cell 2
 have q3 := k0.cell 3
 have c0 := hx.c0
 have c1 := hx.c1
 have c3 := hx.c3
 have q0a := q0
 have q1a := q1
 have q2a := q2
 have q3a := q3
 have c3a := c3
 rw [hwx] at q0a q1a q2a q3a c3a
 have hf0 := hs.free0
 have hu0 := hs.used0
 obtain ⟨hf1, hu1, hh0, hh1⟩ := ok_free hs
 have hll := hs.len
 have HX := hide hx
 have HBX := hide hbx
 have HWX := hide hwx
 have HS := hide hs
 obtain ⟨A, c, rfl, hnc⟩ := own_slice h.own
 have HK0 := hide k0
 have HNE := hide (show g ≠ w.heap.size by have := h.blk.lt; omega)
 obtain ⟨m, hm⟩ : ∃ m, m = s.opn.length := ⟨_, rfl⟩
 have HM := hide hm
 rw [← hm] at c3 c3a hll hnc
 clear hx h hbx hs k0 hwx hm
 have HF := hide (show s.order ⟨kind, n, life, id⟩ = (s, 0, 3) by
  unfold Shf.order
  have ha : asksCount kind = false := by unfold asksCount; simp; omega
  rw [ha]
  simp only [Bool.false_and, Bool.false_eq_true, if_false]
  rw [if_neg (by omega), if_neg (by omega), if_neg (by omega), if_neg (by omega), if_neg (by omega), if_neg (by omega), if_neg (by omega)])
 have e1 : (kind == 1) = false := by simp; omega
 have e2 : (kind == 2) = false := by simp; omega
 have e3 : (kind == 3) = false := by simp; omega
 have e4 : (kind == 4) = false := by simp; omega
 have e5 : (kind == 5) = false := by simp; omega
 have e6 : (kind == 6) = false := by simp; omega
 have e7 : (kind == 7) = false := by simp; omega
 clear hk
 by_cases hc : n < 1
 ·go_enter Tryz.func102, Tryz.ntmps102
  go_wp2_with fail
  go_ret2
  rw [unhide HF, ← unhide HWX]
  exact shPost_same (unhide HX) (unhide HBX)
 ·have hc1 : 1 ≤ n := by omega
  clear hc
  go_enter Tryz.func102, Tryz.ntmps102
  go_wp2_with fail
  go_ret2
  rw [unhide HF, ← unhide HWX]
  exact shPost_same (unhide HX) (unhide HBX)
set_option maxRecDepth 100000 in
set_option maxHeartbeats 2000000 in
theorem order3 (base g o : Nat) (cs : Array Value) (s : Shf) (v : Value) (w : World) (n life id K : Int) (h : ShAt w base g o cs s v) (hs : s.ok K) (hK : K ≤ 1000000) (hB : base ≤ w.heap.size) (hc1 : 1 ≤ n) (hc2 : n ≤ 1048576) :
    Calls Tryz.prog 102 #[.pointer (some ⟨g, o, none⟩), (⟨3, n, life, id⟩ : Ordr).val] w (ShPost base g o cs v w (s.order ⟨3, n, life, id⟩)) := by
 unfold Ordr.val
 dsimp only
 obtain ⟨wx, hwx⟩ : ∃ wx, wx = w.alloc (.cells #[.int .i64 3, .int .i64 n, .int .i64 life, .int .i64 id] 130) := ⟨_, rfl⟩
 have hbx : Below w.heap.size w wx := by rw [hwx]; exact (Below.refl _ _).alloc (Nat.le_refl _) _
 have k0 : Blk wx w.heap.size 130 #[.int .i64 3, .int .i64 n, .int .i64 life, .int .i64 id] := by rw [hwx]; exact Blk.new w 130 _
 have hx := h.calm hbx
 have q0 := k0.cell 0
 have q1 := k0.cell 1
 have q2 := k0.cell 2
 have q3 := k0.cell 3
 have c0 := hx.c0
 have c1 := hx.c1
 have c3 := hx.c3
 have q0a := q0
 have q1a := q1
 have q2a := q2
 have q3a := q3
 have c3a := c3
 rw [hwx] at q0a q1a q2a q3a c3a
 have hf0 := hs.free0
 have hu0 := hs.used0
 obtain ⟨hf1, hu1, hh0, hh1⟩ := ok_free hs
 have hll := hs.len
 have HX := hide hx
 have HBX := hide hbx
 have HWX := hide hwx
 have HS := hide hs
 obtain ⟨A, c, rfl, hnc⟩ := own_slice h.own
 have HK0 := hide k0
 have HNE := hide (show g ≠ w.heap.size by have := h.blk.lt; omega)
 obtain ⟨m, hm⟩ : ∃ m, m = s.opn.length := ⟨_, rfl⟩
 have HM := hide hm
 rw [← hm] at c3 c3a hll hnc
 clear hx h hbx hs k0 hwx hm
 have HF := hide (show s.order ⟨3, n, life, id⟩ = holdS s ⟨3, n, life, id⟩ by
  unfold Shf.order holdS
  rw [counted_yes hc1 hc2]
  simp [asksCount])
 have HH := hide (shelfHold_any base g o cs s (.slice A s.opn.length c) wx ⟨3, n, life, id⟩ K (unhide HX) (unhide HS) hK hc1 hc2 (Nat.le_trans hB (unhide HBX).size))
 unfold Ordr.val at HH
 dsimp only at HH
 have hd1 : decide (1 ≤ n) = true := decide_eq_true (by omega)
 have hd2 : decide (n ≤ 1048576) = true := decide_eq_true (by omega)
 go_enter Tryz.func102, Tryz.ntmps102
 go_wp2_with fail
 rw [← unhide HWX]
 refine (unhide HH).mono ?_
 intro e w' hp
 have HP := hide hp
 obtain ⟨v', he, hp2⟩ := hp
 subst he
 go_wp2_with fail
 go_ret2
 rw [unhide HF]
 obtain ⟨v2, he2, hs2, ho2, ha2⟩ := unhide HP
 refine ⟨v2, he2, hs2, (Only.of_below (unhide HBX) fun x hx hB => by omega).trans ho2 (fun x _ h => h), fun k hk => ?_⟩
 rcases ha2 k hk with h1 | h1
 ·exact .inl h1
 ·exact .inr (Nat.le_trans (unhide HBX).size h1)
set_option maxRecDepth 100000 in
set_option maxHeartbeats 2000000 in
theorem order1_over (base g o : Nat) (cs : Array Value) (s : Shf) (v : Value) (w : World) (n life id K : Int) (h : ShAt w base g o cs s v) (hs : s.ok K) (hK : K ≤ 1000000) (hB : base ≤ w.heap.size) (hc1 : 1 ≤ n) (hc2 : n ≤ 1048576) (hov : 1048576 < s.free + heldL s.opn + s.used + n) :
    Calls Tryz.prog 102 #[.pointer (some ⟨g, o, none⟩), (⟨1, n, life, id⟩ : Ordr).val] w (ShPost base g o cs v w (s.order ⟨1, n, life, id⟩)) := by
 unfold Ordr.val
 dsimp only
 obtain ⟨wx, hwx⟩ : ∃ wx, wx = w.alloc (.cells #[.int .i64 1, .int .i64 n, .int .i64 life, .int .i64 id] 130) := ⟨_, rfl⟩
 have hbx : Below w.heap.size w wx := by rw [hwx]; exact (Below.refl _ _).alloc (Nat.le_refl _) _
 have k0 : Blk wx w.heap.size 130 #[.int .i64 1, .int .i64 n, .int .i64 life, .int .i64 id] := by rw [hwx]; exact Blk.new w 130 _
 have hx := h.calm hbx
 have q0 := k0.cell 0
 have q1 := k0.cell 1
 have q2 := k0.cell 2
 have q3 := k0.cell 3
 have c0 := hx.c0
 have c1 := hx.c1
 have c3 := hx.c3
 have q0a := q0
 have q1a := q1
 have q2a := q2
 have q3a := q3
 have c3a := c3
 rw [hwx] at q0a q1a q2a q3a c3a
 have hf0 := hs.free0
 have hu0 := hs.used0
 obtain ⟨hf1, hu1, hh0, hh1⟩ := ok_free hs
 have hll := hs.len
 have HX := hide hx
 have HBX := hide hbx
 have HWX := hide hwx
 have HS := hide hs
 obtain ⟨A, c, rfl, hnc⟩ := own_slice h.own
 have HK0 := hide k0
 have HNE := hide (show g ≠ w.heap.size by have := h.blk.lt; omega)
 obtain ⟨m, hm⟩ : ∃ m, m = s.opn.length := ⟨_, rfl⟩
 have HM := hide hm
 rw [← hm] at c3 c3a hll hnc
 clear hx h hbx hs k0 hwx hm
 have HF := hide (show s.order ⟨1, n, life, id⟩ = (s, 0, 12) by
  unfold Shf.order
  rw [counted_yes hc1 hc2]
  simp [asksCount, hov])
 have HH := hide (fun W (hW : Below wx.heap.size wx W) => shelfHeld_any base g o cs s (.slice A s.opn.length c) W ((unhide HX).calm hW) (unhide HS).len (fun x hx => by have := (unhide HS).each x hx; omega))
 have cc0 := fun n : Ext wx => n.cell c0
 have cc1 := fun n : Ext wx => n.cell c1
 have cq1 := fun n : Ext wx => n.cell q1
 have s1 : IntKind.i64.wrap (s.free + heldL s.opn) = s.free + heldL s.opn := IntWalk.i64_in _ (by omega)
 have s2 : IntKind.i64.wrap (s.free + heldL s.opn + s.used) = s.free + heldL s.opn + s.used := IntWalk.i64_in _ (by omega)
 have s3 : IntKind.i64.wrap (s.free + heldL s.opn + s.used + n) = s.free + heldL s.opn + s.used + n := IntWalk.i64_in _ (by omega)
 have HS123 := hide (And.intro s1 (And.intro s2 s3))
 clear s1 s2 s3
 have hd1 : decide (1 ≤ n) = true := decide_eq_true (by omega)
 have hd2 : decide (n ≤ 1048576) = true := decide_eq_true (by omega)
 go_enter Tryz.func102, Tryz.ntmps102
 go_wp2_with fail
 rw [← unhide HWX]
 obtain ⟨s1, s2, s3⟩ := unhide HS123
 refine wp_region_calm (by kernel_rfl) (by kernel_rfl) ?_
 repeat (go_big_quiet_step ((go_at_call 49; exact calm_call (unhide HH _ (Ext.h _)))))
 refine wpQuiet_nil ?_
 rintro _ ⟨nq, rfl⟩
 clear s1 s2 s3
 go_wp2_with fail
 go_ret2
 rw [unhide HF]
 exact shPost_same ((unhide HX).calm nq.h) ((unhide HBX).trans (nq.h.mono (unhide HBX).size))
set_option maxRecDepth 100000 in
set_option maxHeartbeats 2000000 in
theorem order1_ok (base g o : Nat) (cs : Array Value) (s : Shf) (v : Value) (w : World) (n life id K : Int) (h : ShAt w base g o cs s v) (hs : s.ok K) (hK : K ≤ 1000000) (hB : base ≤ w.heap.size) (hc1 : 1 ≤ n) (hc2 : n ≤ 1048576) (hov : s.free + heldL s.opn + s.used + n ≤ 1048576) :
    Calls Tryz.prog 102 #[.pointer (some ⟨g, o, none⟩), (⟨1, n, life, id⟩ : Ordr).val] w (ShPost base g o cs v w (s.order ⟨1, n, life, id⟩)) := by
 unfold Ordr.val
 dsimp only
 obtain ⟨wx, hwx⟩ : ∃ wx, wx = w.alloc (.cells #[.int .i64 1, .int .i64 n, .int .i64 life, .int .i64 id] 130) := ⟨_, rfl⟩
 have hbx : Below w.heap.size w wx := by rw [hwx]; exact (Below.refl _ _).alloc (Nat.le_refl _) _
 have k0 : Blk wx w.heap.size 130 #[.int .i64 1, .int .i64 n, .int .i64 life, .int .i64 id] := by rw [hwx]; exact Blk.new w 130 _
 have hx := h.calm hbx
 have q0 := k0.cell 0
 have q1 := k0.cell 1
 have q2 := k0.cell 2
 have q3 := k0.cell 3
 have c0 := hx.c0
 have c1 := hx.c1
 have c3 := hx.c3
 have q0a := q0
 have q1a := q1
 have q2a := q2
 have q3a := q3
 have c3a := c3
 rw [hwx] at q0a q1a q2a q3a c3a
 have hf0 := hs.free0
 have hu0 := hs.used0
 obtain ⟨hf1, hu1, hh0, hh1⟩ := ok_free hs
 have hll := hs.len
 have HX := hide hx
 have HBX := hide hbx
 have HWX := hide hwx
 have HS := hide hs
 obtain ⟨A, c, rfl, hnc⟩ := own_slice h.own
 have HK0 := hide k0
 have HNE := hide (show g ≠ w.heap.size by have := h.blk.lt; omega)
 obtain ⟨m, hm⟩ : ∃ m, m = s.opn.length := ⟨_, rfl⟩
 have HM := hide hm
 rw [← hm] at c3 c3a hll hnc
 clear hx h hbx hs k0 hwx hm
 have HF := hide (show s.order ⟨1, n, life, id⟩ = (⟨s.free + n, s.used, s.made, s.opn⟩, 0, 0) by
  unfold Shf.order
  rw [counted_yes hc1 hc2, if_neg (by simp [asksCount]), if_pos rfl, if_neg (by dsimp only; omega)])
 have HH := hide (fun W (hW : Below wx.heap.size wx W) => shelfHeld_any base g o cs s (.slice A s.opn.length c) W ((unhide HX).calm hW) (unhide HS).len (fun x hx => by have := (unhide HS).each x hx; omega))
 have cc0 := fun n : Ext wx => n.cell c0
 have cc1 := fun n : Ext wx => n.cell c1
 have cq1 := fun n : Ext wx => n.cell q1
 have s1 : IntKind.i64.wrap (s.free + heldL s.opn) = s.free + heldL s.opn := IntWalk.i64_in _ (by omega)
 have s2 : IntKind.i64.wrap (s.free + heldL s.opn + s.used) = s.free + heldL s.opn + s.used := IntWalk.i64_in _ (by omega)
 have s3 : IntKind.i64.wrap (s.free + heldL s.opn + s.used + n) = s.free + heldL s.opn + s.used + n := IntWalk.i64_in _ (by omega)
 have HS123 := hide (And.intro s1 (And.intro s2 s3))
 clear s1 s2 s3
 have hd1 : decide (1 ≤ n) = true := decide_eq_true (by omega)
 have hd2 : decide (n ≤ 1048576) = true := decide_eq_true (by omega)
 go_enter Tryz.func102, Tryz.ntmps102
 go_wp2_with fail
 rw [← unhide HWX]
 obtain ⟨s1, s2, s3⟩ := unhide HS123
 refine wp_region_calm (by kernel_rfl) (by kernel_rfl) ?_
 repeat (go_big_quiet_step ((go_at_call 49; exact calm_call (unhide HH _ (Ext.h _)))))
 refine wpQuiet_nil ?_
 rintro _ ⟨nq, rfl⟩
 clear s1 s2 s3
 go_wp2_with fail
 have hx2 := (unhide HX).calm nq.h
 have d0 := hx2.c0
 have f0 := hx2.fr o
 have k2 := (unhide HK0).below nq.h (unhide HK0).lt
 have r1 := k2.cell 1
 have HX2 := hide hx2
 clear hx2 k2
 refine wp_region_draw_tail 9 (by kernel_rfl) (by kernel_rfl) ?_
 simp only [List.take_succ_cons, List.take_zero, List.drop_succ_cons, List.drop_zero]
 repeat (go_big_quiet_step (fail))
 refine wpQuiet_nil ?_
 rintro _ ⟨nq2, rfl⟩
 go_wp2_with fail
 go_ret2
 rw [unhide HF]
 refine ⟨.slice A s.opn.length c, rfl, ((unhide HX2).calm (below_drewN (Below.refl _ _) nq2)).free_ (s.free + n), ?_, fun k hk => .inl hk⟩
 have h1 : Only (fun k => k = g ∨ Value.ownBlock (.slice A s.opn.length c) = some k) w wx := Only.of_below (unhide HBX) fun x hx hB => by omega
 exact Only.setCell (((h1.calm nq.h).drewN nq2)) (fun _ => .inl rfl) _
set_option maxRecDepth 100000 in
set_option maxHeartbeats 2000000 in
theorem order2_less (base g o : Nat) (cs : Array Value) (s : Shf) (v : Value) (w : World) (n life id K : Int) (h : ShAt w base g o cs s v) (hs : s.ok K) (hK : K ≤ 1000000) (hB : base ≤ w.heap.size) (hc1 : 1 ≤ n) (hc2 : n ≤ 1048576) (hls : s.free < n) :
    Calls Tryz.prog 102 #[.pointer (some ⟨g, o, none⟩), (⟨2, n, life, id⟩ : Ordr).val] w (ShPost base g o cs v w (s.order ⟨2, n, life, id⟩)) := by
 unfold Ordr.val
 dsimp only
 obtain ⟨wx, hwx⟩ : ∃ wx, wx = w.alloc (.cells #[.int .i64 2, .int .i64 n, .int .i64 life, .int .i64 id] 130) := ⟨_, rfl⟩
 have hbx : Below w.heap.size w wx := by rw [hwx]; exact (Below.refl _ _).alloc (Nat.le_refl _) _
 have k0 : Blk wx w.heap.size 130 #[.int .i64 2, .int .i64 n, .int .i64 life, .int .i64 id] := by rw [hwx]; exact Blk.new w 130 _
 have hx := h.calm hbx
 have q0 := k0.cell 0
 have q1 := k0.cell 1
 have q2 := k0.cell 2
 have q3 := k0.cell 3
 have c0 := hx.c0
 have c1 := hx.c1
 have c3 := hx.c3
 have q0a := q0
 have q1a := q1
 have q2a := q2
 have q3a := q3
 have c3a := c3
 rw [hwx] at q0a q1a q2a q3a c3a
 have hf0 := hs.free0
 have hu0 := hs.used0
 obtain ⟨hf1, hu1, hh0, hh1⟩ := ok_free hs
 have hll := hs.len
 have HX := hide hx
 have HBX := hide hbx
 have HWX := hide hwx
 have HS := hide hs
 obtain ⟨A, c, rfl, hnc⟩ := own_slice h.own
 have HK0 := hide k0
 have HNE := hide (show g ≠ w.heap.size by have := h.blk.lt; omega)
 obtain ⟨m, hm⟩ : ∃ m, m = s.opn.length := ⟨_, rfl⟩
 have HM := hide hm
 rw [← hm] at c3 c3a hll hnc
 clear hx h hbx hs k0 hwx hm
 have HF := hide (show s.order ⟨2, n, life, id⟩ = (s, 0, 9) by
  unfold Shf.order
  rw [counted_yes hc1 hc2]
  simp [asksCount, hls])
 have HSH := hide (fun N => shelfShift_less (.pointer (some ⟨g, o, none⟩)) g (o) (o + 1) s.free n (wx.drewN N) c0 hls)
 have hd1 : decide (1 ≤ n) = true := decide_eq_true (by omega)
 have hd2 : decide (n ≤ 1048576) = true := decide_eq_true (by omega)
 go_enter Tryz.func102, Tryz.ntmps102
 go_wp2_with fail
 rw [← unhide HWX]
 refine wp_region_draw_full [] [0, 1, 2, 3, 4, 5, 6, 7, 8] [] [] 9 [10, 11] (by kernel_rfl) (by kernel_rfl) (by intro c a d v w h; cases d <;> exact h) ?_
 simp only [pickOps, List.map_cons, List.map_nil, List.getD_cons_zero, List.getD_cons_succ]
 refine wpQuiet_nil ?_
 repeat (go_big_quiet_step (fail))
 refine wpQuiet_nil (wpQuiet_nil ?_)
 rintro _ ⟨nq, rfl⟩
 simp only [wpAl]
 go_wp2_with fail
 refine (unhide HSH nq).mono ?_
 rintro _ _ ⟨rfl, rfl⟩
 go_wp2_with fail
 go_ret2
 rw [unhide HF]
 exact shPost_same ((unhide HX).calm (below_drewN (Below.refl _ _) nq)) (below_drewN (unhide HBX) nq)
set_option maxRecDepth 100000 in
set_option maxHeartbeats 2000000 in
theorem order2_ok (base g o : Nat) (cs : Array Value) (s : Shf) (v : Value) (w : World) (n life id K : Int) (h : ShAt w base g o cs s v) (hs : s.ok K) (hK : K ≤ 1000000) (hB : base ≤ w.heap.size) (hc1 : 1 ≤ n) (hc2 : n ≤ 1048576) (hls : n ≤ s.free) :
    Calls Tryz.prog 102 #[.pointer (some ⟨g, o, none⟩), (⟨2, n, life, id⟩ : Ordr).val] w (ShPost base g o cs v w (s.order ⟨2, n, life, id⟩)) := by
 unfold Ordr.val
 dsimp only
 obtain ⟨wx, hwx⟩ : ∃ wx, wx = w.alloc (.cells #[.int .i64 2, .int .i64 n, .int .i64 life, .int .i64 id] 130) := ⟨_, rfl⟩
 have hbx : Below w.heap.size w wx := by rw [hwx]; exact (Below.refl _ _).alloc (Nat.le_refl _) _
 have k0 : Blk wx w.heap.size 130 #[.int .i64 2, .int .i64 n, .int .i64 life, .int .i64 id] := by rw [hwx]; exact Blk.new w 130 _
 have hx := h.calm hbx
 have q0 := k0.cell 0
 have q1 := k0.cell 1
 have q2 := k0.cell 2
 have q3 := k0.cell 3
 have c0 := hx.c0
 have c1 := hx.c1
 have c3 := hx.c3
 have q0a := q0
 have q1a := q1
 have q2a := q2
 have q3a := q3
 have c3a := c3
 rw [hwx] at q0a q1a q2a q3a c3a
 have hf0 := hs.free0
 have hu0 := hs.used0
 obtain ⟨hf1, hu1, hh0, hh1⟩ := ok_free hs
 have hll := hs.len
 have HX := hide hx
 have HBX := hide hbx
 have HWX := hide hwx
 have HS := hide hs
 obtain ⟨A, c, rfl, hnc⟩ := own_slice h.own
 have HK0 := hide k0
 have HNE := hide (show g ≠ w.heap.size by have := h.blk.lt; omega)
 obtain ⟨m, hm⟩ : ∃ m, m = s.opn.length := ⟨_, rfl⟩
 have HM := hide hm
 rw [← hm] at c3 c3a hll hnc
 clear hx h hbx hs k0 hwx hm
 have HF := hide (show s.order ⟨2, n, life, id⟩ = (⟨s.free - n, s.used + n, s.made, s.opn⟩, 0, 0) by
  unfold Shf.order
  rw [counted_yes hc1 hc2]
  simp [asksCount, show ¬ s.free < n by omega])
 have HSH := hide (fun N => shelfShift_ok (.pointer (some ⟨g, o, none⟩)) g (o) (o + 1) s.free s.used n (wx.drewN N) c0 c1 ((unhide HX).fr _) ((unhide HX).fr _) (by omega) hls (by omega) (by omega) (by omega) (by omega))
 have hd1 : decide (1 ≤ n) = true := decide_eq_true (by omega)
 have hd2 : decide (n ≤ 1048576) = true := decide_eq_true (by omega)
 go_enter Tryz.func102, Tryz.ntmps102
 go_wp2_with fail
 rw [← unhide HWX]
 refine wp_region_draw_full [] [0, 1, 2, 3, 4, 5, 6, 7, 8] [] [] 9 [10, 11] (by kernel_rfl) (by kernel_rfl) (by intro c a d v w h; cases d <;> exact h) ?_
 simp only [pickOps, List.map_cons, List.map_nil, List.getD_cons_zero, List.getD_cons_succ]
 refine wpQuiet_nil ?_
 repeat (go_big_quiet_step (fail))
 refine wpQuiet_nil (wpQuiet_nil ?_)
 rintro _ ⟨nq, rfl⟩
 simp only [wpAl]
 go_wp2_with fail
 refine (unhide HSH nq).mono ?_
 rintro _ w4 ⟨rfl, hw4⟩
 have hx4 := (ShAt.free_ ((unhide HX).calm (below_drewN (Below.refl _ _) nq)) (s.free - n)).used_ (s.used + n)
 rw [putAt_put _ _ _ _ (by simp [Shf.cells])] at hx4
 have hO4 : Only (fun k => k = g) wx w4 := by rw [← hw4]; exact Only.setCell (D := fun k => k = g) (Only.setCell (D := fun k => k = g) ((Only.refl _ wx).drewN nq) (p := ⟨g, o, none⟩) (fun _ => rfl) _) (p := ⟨g, o + 1, none⟩) (fun _ => rfl) _
 have hx5 : ShAt w4 base g o _ _ _ := hw4 ▸ hx4
 have HX4 := hide hx5
 have HO4 := hide hO4
 clear hx4 hx5 hO4 hw4
 go_wp2_with fail
 go_ret2
 rw [unhide HF]
 refine ⟨.slice A s.opn.length c, rfl, unhide HX4, ?_, fun k hk => .inl hk⟩
 have h1 : Only (fun k => k = g ∨ Value.ownBlock (.slice A s.opn.length c) = some k) w wx := Only.of_below (unhide HBX) fun x hx hB => by omega
 exact h1.trans (unhide HO4) (fun x _ h => .inl h)
set_option maxRecDepth 100000 in
set_option maxHeartbeats 2000000 in
theorem order6_less (base g o : Nat) (cs : Array Value) (s : Shf) (v : Value) (w : World) (n life id K : Int) (h : ShAt w base g o cs s v) (hs : s.ok K) (hK : K ≤ 1000000) (hB : base ≤ w.heap.size) (hc1 : 1 ≤ n) (hc2 : n ≤ 1048576) (hls : s.used < n) :
    Calls Tryz.prog 102 #[.pointer (some ⟨g, o, none⟩), (⟨6, n, life, id⟩ : Ordr).val] w (ShPost base g o cs v w (s.order ⟨6, n, life, id⟩)) := by
 unfold Ordr.val
 dsimp only
 obtain ⟨wx, hwx⟩ : ∃ wx, wx = w.alloc (.cells #[.int .i64 6, .int .i64 n, .int .i64 life, .int .i64 id] 130) := ⟨_, rfl⟩
 have hbx : Below w.heap.size w wx := by rw [hwx]; exact (Below.refl _ _).alloc (Nat.le_refl _) _
 have k0 : Blk wx w.heap.size 130 #[.int .i64 6, .int .i64 n, .int .i64 life, .int .i64 id] := by rw [hwx]; exact Blk.new w 130 _
 have hx := h.calm hbx
 have q0 := k0.cell 0
 have q1 := k0.cell 1
 have q2 := k0.cell 2
 have q3 := k0.cell 3
 have c0 := hx.c0
 have c1 := hx.c1
 have c3 := hx.c3
 have q0a := q0
 have q1a := q1
 have q2a := q2
 have q3a := q3
 have c3a := c3
 rw [hwx] at q0a q1a q2a q3a c3a
 have hf0 := hs.free0
 have hu0 := hs.used0
 obtain ⟨hf1, hu1, hh0, hh1⟩ := ok_free hs
 have hll := hs.len
 have HX := hide hx
 have HBX := hide hbx
 have HWX := hide hwx
 have HS := hide hs
 obtain ⟨A, c, rfl, hnc⟩ := own_slice h.own
 have HK0 := hide k0
 have HNE := hide (show g ≠ w.heap.size by have := h.blk.lt; omega)
 obtain ⟨m, hm⟩ : ∃ m, m = s.opn.length := ⟨_, rfl⟩
 have HM := hide hm
 rw [← hm] at c3 c3a hll hnc
 clear hx h hbx hs k0 hwx hm
 have HF := hide (show s.order ⟨6, n, life, id⟩ = (s, 0, 9) by
  unfold Shf.order
  rw [counted_yes hc1 hc2]
  simp [asksCount, hls])
 have HSH := hide (fun N => shelfShift_less (.pointer (some ⟨g, o, none⟩)) g (o + 1) (o) s.used n (wx.drewN N) c1 hls)
 have hd1 : decide (1 ≤ n) = true := decide_eq_true (by omega)
 have hd2 : decide (n ≤ 1048576) = true := decide_eq_true (by omega)
 go_enter Tryz.func102, Tryz.ntmps102
 go_wp2_with fail
 rw [← unhide HWX]
 refine wp_region_draw_full [] [0, 1, 2, 3, 4, 5, 6, 7, 8] [] [] 9 [10, 11] (by kernel_rfl) (by kernel_rfl) (by intro c a d v w h; cases d <;> exact h) ?_
 simp only [pickOps, List.map_cons, List.map_nil, List.getD_cons_zero, List.getD_cons_succ]
 refine wpQuiet_nil ?_
 repeat (go_big_quiet_step (fail))
 refine wpQuiet_nil (wpQuiet_nil ?_)
 rintro _ ⟨nq, rfl⟩
 simp only [wpAl]
 go_wp2_with fail
 refine (unhide HSH nq).mono ?_
 rintro _ _ ⟨rfl, rfl⟩
 go_wp2_with fail
 go_ret2
 rw [unhide HF]
 exact shPost_same ((unhide HX).calm (below_drewN (Below.refl _ _) nq)) (below_drewN (unhide HBX) nq)
set_option maxRecDepth 100000 in
set_option maxHeartbeats 2000000 in
theorem order6_ok (base g o : Nat) (cs : Array Value) (s : Shf) (v : Value) (w : World) (n life id K : Int) (h : ShAt w base g o cs s v) (hs : s.ok K) (hK : K ≤ 1000000) (hB : base ≤ w.heap.size) (hc1 : 1 ≤ n) (hc2 : n ≤ 1048576) (hls : n ≤ s.used) :
    Calls Tryz.prog 102 #[.pointer (some ⟨g, o, none⟩), (⟨6, n, life, id⟩ : Ordr).val] w (ShPost base g o cs v w (s.order ⟨6, n, life, id⟩)) := by
 unfold Ordr.val
 dsimp only
 obtain ⟨wx, hwx⟩ : ∃ wx, wx = w.alloc (.cells #[.int .i64 6, .int .i64 n, .int .i64 life, .int .i64 id] 130) := ⟨_, rfl⟩
 have hbx : Below w.heap.size w wx := by rw [hwx]; exact (Below.refl _ _).alloc (Nat.le_refl _) _
 have k0 : Blk wx w.heap.size 130 #[.int .i64 6, .int .i64 n, .int .i64 life, .int .i64 id] := by rw [hwx]; exact Blk.new w 130 _
 have hx := h.calm hbx
 have q0 := k0.cell 0
 have q1 := k0.cell 1
 have q2 := k0.cell 2
 have q3 := k0.cell 3
 have c0 := hx.c0
 have c1 := hx.c1
 have c3 := hx.c3
 have q0a := q0
 have q1a := q1
 have q2a := q2
 have q3a := q3
 have c3a := c3
 rw [hwx] at q0a q1a q2a q3a c3a
 have hf0 := hs.free0
 have hu0 := hs.used0
 obtain ⟨hf1, hu1, hh0, hh1⟩ := ok_free hs
 have hll := hs.len
 have HX := hide hx
 have HBX := hide hbx
 have HWX := hide hwx
 have HS := hide hs
 obtain ⟨A, c, rfl, hnc⟩ := own_slice h.own
 have HK0 := hide k0
 have HNE := hide (show g ≠ w.heap.size by have := h.blk.lt; omega)
 obtain ⟨m, hm⟩ : ∃ m, m = s.opn.length := ⟨_, rfl⟩
 have HM := hide hm
 rw [← hm] at c3 c3a hll hnc
 clear hx h hbx hs k0 hwx hm
 have HF := hide (show s.order ⟨6, n, life, id⟩ = (⟨s.free + n, s.used - n, s.made, s.opn⟩, 0, 0) by
  unfold Shf.order
  rw [counted_yes hc1 hc2]
  simp [asksCount, show ¬ s.used < n by omega])
 have HSH := hide (fun N => shelfShift_ok (.pointer (some ⟨g, o, none⟩)) g (o + 1) (o) s.used s.free n (wx.drewN N) c1 c0 ((unhide HX).fr _) ((unhide HX).fr _) (by omega) hls (by omega) (by omega) (by omega) (by omega))
 have hd1 : decide (1 ≤ n) = true := decide_eq_true (by omega)
 have hd2 : decide (n ≤ 1048576) = true := decide_eq_true (by omega)
 go_enter Tryz.func102, Tryz.ntmps102
 go_wp2_with fail
 rw [← unhide HWX]
 refine wp_region_draw_full [] [0, 1, 2, 3, 4, 5, 6, 7, 8] [] [] 9 [10, 11] (by kernel_rfl) (by kernel_rfl) (by intro c a d v w h; cases d <;> exact h) ?_
 simp only [pickOps, List.map_cons, List.map_nil, List.getD_cons_zero, List.getD_cons_succ]
 refine wpQuiet_nil ?_
 repeat (go_big_quiet_step (fail))
 refine wpQuiet_nil (wpQuiet_nil ?_)
 rintro _ ⟨nq, rfl⟩
 simp only [wpAl]
 go_wp2_with fail
 refine (unhide HSH nq).mono ?_
 rintro _ w4 ⟨rfl, hw4⟩
 have hx4 := (ShAt.used_ ((unhide HX).calm (below_drewN (Below.refl _ _) nq)) (s.used - n)).free_ (s.free + n)
 rw [putAt_put _ _ _ _ (by simp [Shf.cells])] at hx4
 have hO4 : Only (fun k => k = g) wx w4 := by rw [← hw4]; exact Only.setCell (D := fun k => k = g) (Only.setCell (D := fun k => k = g) ((Only.refl _ wx).drewN nq) (p := ⟨g, o + 1, none⟩) (fun _ => rfl) _) (p := ⟨g, o, none⟩) (fun _ => rfl) _
 have hx5 : ShAt w4 base g o _ _ _ := hw4 ▸ hx4
 have HX4 := hide hx5
 have HO4 := hide hO4
 clear hx4 hx5 hO4 hw4
 go_wp2_with fail
 go_ret2
 rw [unhide HF]
 refine ⟨.slice A s.opn.length c, rfl, unhide HX4, ?_, fun k hk => .inl hk⟩
 have h1 : Only (fun k => k = g ∨ Value.ownBlock (.slice A s.opn.length c) = some k) w wx := Only.of_below (unhide HBX) fun x hx hB => by omega
 exact h1.trans (unhide HO4) (fun x _ h => .inl h)
set_option maxRecDepth 100000 in
set_option maxHeartbeats 2000000 in
theorem order4 (base g o : Nat) (cs : Array Value) (s : Shf) (v : Value) (w : World) (n life id K : Int) (h : ShAt w base g o cs s v) (hs : s.ok K) (hK : K ≤ 1000000) (hB : base ≤ w.heap.size)  :
    Calls Tryz.prog 102 #[.pointer (some ⟨g, o, none⟩), (⟨4, n, life, id⟩ : Ordr).val] w (ShPost base g o cs v w (s.order ⟨4, n, life, id⟩)) := by
 unfold Ordr.val
 dsimp only
 obtain ⟨wx, hwx⟩ : ∃ wx, wx = w.alloc (.cells #[.int .i64 4, .int .i64 n, .int .i64 life, .int .i64 id] 130) := ⟨_, rfl⟩
 have hbx : Below w.heap.size w wx := by rw [hwx]; exact (Below.refl _ _).alloc (Nat.le_refl _) _
 have k0 : Blk wx w.heap.size 130 #[.int .i64 4, .int .i64 n, .int .i64 life, .int .i64 id] := by rw [hwx]; exact Blk.new w 130 _
 have hx := h.calm hbx
 have q0 := k0.cell 0
 have q1 := k0.cell 1
 have q2 := k0.cell 2
 have q3 := k0.cell 3
 have c0 := hx.c0
 have c1 := hx.c1
 have c3 := hx.c3
 have q0a := q0
 have q1a := q1
 have q2a := q2
 have q3a := q3
 have c3a := c3
 rw [hwx] at q0a q1a q2a q3a c3a
 have hf0 := hs.free0
 have hu0 := hs.used0
 obtain ⟨hf1, hu1, hh0, hh1⟩ := ok_free hs
 have hll := hs.len
 have HX := hide hx
 have HBX := hide hbx
 have HWX := hide hwx
 have HS := hide hs
 obtain ⟨A, c, rfl, hnc⟩ := own_slice h.own
 have HK0 := hide k0
 have HNE := hide (show g ≠ w.heap.size by have := h.blk.lt; omega)
 obtain ⟨m, hm⟩ : ∃ m, m = s.opn.length := ⟨_, rfl⟩
 have HM := hide hm
 rw [← hm] at c3 c3a hll hnc
 clear hx h hbx hs k0 hwx hm
 have HF := hide (show s.order ⟨4, n, life, id⟩ = ((shutS s id true).1, 0, (shutS s id true).2) by
  unfold Shf.order
  simp [asksCount])
 have HC := hide (fun N => shelfClose_any base g o cs s (.slice A s.opn.length c) (wx.drewN N) id true K ((unhide HX).calm (below_drewN (Below.refl _ _) N)) (unhide HS) hK (Nat.le_trans hB (unhide HBX).size))
 by_cases hc : n < 1
 all_goals
  first | (have hd1 : decide (1 ≤ n) = false := decide_eq_false (by omega)) | (have hd1 : decide (1 ≤ n) = true := decide_eq_true (by omega))
  go_enter Tryz.func102, Tryz.ntmps102
  go_wp2_with fail
  rw [← unhide HWX]
  refine wp_region_draw_full [] [0, 1, 2, 3, 4, 5] [] [] 6 [7, 8] (by kernel_rfl) (by kernel_rfl) (by intro c a d v w h; cases d <;> exact h) ?_
  simp only [pickOps, List.map_cons, List.map_nil, List.getD_cons_zero, List.getD_cons_succ]
  refine wpQuiet_nil ?_
  repeat (go_big_quiet_step (fail))
  refine wpQuiet_nil (wpQuiet_nil ?_)
  rintro _ ⟨nq, rfl⟩
  simp only [wpAl]
  go_wp2_with fail
  refine (unhide HC nq).mono ?_
  intro e w' hp
  have HP := hide hp
  obtain ⟨v', he, hp2⟩ := hp
  subst he
  clear hp2
  go_wp2_with fail
  go_ret2
  rw [unhide HF]
  obtain ⟨v2, he2, hs2, ho2, ha2⟩ := unhide HP
  refine ⟨v2, rfl, hs2, ?_, fun k hk => ?_⟩
  ·have h1 : Only (fun k => k = g ∨ Value.ownBlock (.slice A s.opn.length c) = some k) w wx := Only.of_below (unhide HBX) fun x hx hB => by omega
   exact (h1.drewN nq).trans ho2 (fun x _ h => h)
  ·rcases ha2 k hk with h1 | h1
   ·exact .inl h1
   ·exact .inr (Nat.le_trans (unhide HBX).size h1)
set_option maxRecDepth 100000 in
set_option maxHeartbeats 2000000 in
theorem order5 (base g o : Nat) (cs : Array Value) (s : Shf) (v : Value) (w : World) (n life id K : Int) (h : ShAt w base g o cs s v) (hs : s.ok K) (hK : K ≤ 1000000) (hB : base ≤ w.heap.size)  :
    Calls Tryz.prog 102 #[.pointer (some ⟨g, o, none⟩), (⟨5, n, life, id⟩ : Ordr).val] w (ShPost base g o cs v w (s.order ⟨5, n, life, id⟩)) := by
 unfold Ordr.val
 dsimp only
 obtain ⟨wx, hwx⟩ : ∃ wx, wx = w.alloc (.cells #[.int .i64 5, .int .i64 n, .int .i64 life, .int .i64 id] 130) := ⟨_, rfl⟩
 have hbx : Below w.heap.size w wx := by rw [hwx]; exact (Below.refl _ _).alloc (Nat.le_refl _) _
 have k0 : Blk wx w.heap.size 130 #[.int .i64 5, .int .i64 n, .int .i64 life, .int .i64 id] := by rw [hwx]; exact Blk.new w 130 _
 have hx := h.calm hbx
 have q0 := k0.cell 0
 have q1 := k0.cell 1
 have q2 := k0.cell 2
 have q3 := k0.cell 3
 have c0 := hx.c0
 have c1 := hx.c1
 have c3 := hx.c3
 have q0a := q0
 have q1a := q1
 have q2a := q2
 have q3a := q3
 have c3a := c3
 rw [hwx] at q0a q1a q2a q3a c3a
 have hf0 := hs.free0
 have hu0 := hs.used0
 obtain ⟨hf1, hu1, hh0, hh1⟩ := ok_free hs
 have hll := hs.len
 have HX := hide hx
 have HBX := hide hbx
 have HWX := hide hwx
 have HS := hide hs
 obtain ⟨A, c, rfl, hnc⟩ := own_slice h.own
 have HK0 := hide k0
 have HNE := hide (show g ≠ w.heap.size by have := h.blk.lt; omega)
 obtain ⟨m, hm⟩ : ∃ m, m = s.opn.length := ⟨_, rfl⟩
 have HM := hide hm
 rw [← hm] at c3 c3a hll hnc
 clear hx h hbx hs k0 hwx hm
 have HF := hide (show s.order ⟨5, n, life, id⟩ = ((shutS s id false).1, 0, (shutS s id false).2) by
  unfold Shf.order
  simp [asksCount])
 have HC := hide (fun N => shelfClose_any base g o cs s (.slice A s.opn.length c) (wx.drewN N) id false K ((unhide HX).calm (below_drewN (Below.refl _ _) N)) (unhide HS) hK (Nat.le_trans hB (unhide HBX).size))
 by_cases hc : n < 1
 all_goals
  first | (have hd1 : decide (1 ≤ n) = false := decide_eq_false (by omega)) | (have hd1 : decide (1 ≤ n) = true := decide_eq_true (by omega))
  go_enter Tryz.func102, Tryz.ntmps102
  go_wp2_with fail
  rw [← unhide HWX]
  refine wp_region_draw_full [] [0, 1, 2, 3, 4, 5] [] [] 6 [7, 8] (by kernel_rfl) (by kernel_rfl) (by intro c a d v w h; cases d <;> exact h) ?_
  simp only [pickOps, List.map_cons, List.map_nil, List.getD_cons_zero, List.getD_cons_succ]
  refine wpQuiet_nil ?_
  repeat (go_big_quiet_step (fail))
  refine wpQuiet_nil (wpQuiet_nil ?_)
  rintro _ ⟨nq, rfl⟩
  simp only [wpAl]
  go_wp2_with fail
  refine (unhide HC nq).mono ?_
  intro e w' hp
  have HP := hide hp
  obtain ⟨v', he, hp2⟩ := hp
  subst he
  clear hp2
  go_wp2_with fail
  go_ret2
  rw [unhide HF]
  obtain ⟨v2, he2, hs2, ho2, ha2⟩ := unhide HP
  refine ⟨v2, rfl, hs2, ?_, fun k hk => ?_⟩
  ·have h1 : Only (fun k => k = g ∨ Value.ownBlock (.slice A s.opn.length c) = some k) w wx := Only.of_below (unhide HBX) fun x hx hB => by omega
   exact (h1.drewN nq).trans ho2 (fun x _ h => h)
  ·rcases ha2 k hk with h1 | h1
   ·exact .inl h1
   ·exact .inr (Nat.le_trans (unhide HBX).size h1)
end
section
open Go.RowKit
theorem overClo_any (x : Hd) (w : World) :
    Calls Tryz.prog 122 #[.agg #[.int .i64 x.id, .int .i64 x.count, .int .i64 x.life]] w fun e w' => e = .returned (.bool (x.life == 0)) ∧ Below w.heap.size w w' := by
 go_enter Tryz.func122, Tryz.ntmps122
 go_wp2_with fail
 go_ret
 exact ⟨rfl, (Below.refl _ _).alloc (Nat.le_refl _) _⟩
theorem overClo_enters (args : Array Value) (W : World) : (callFunc 122 args).run Tryz.prog W = .ok (.enter 122 args) W :=
 callFunc_enters Tryz.func122 (by kernel_rfl) rfl args W
theorem overs_append (a b : List Hd) : overs (a ++ b) = overs a + overs b := by
 induction a with
 | nil => simp [overs]
 | cons h l ih => simp [overs, ih]; omega
theorem overs_take (l : List Hd) (k : Nat) (h : Hd) (hk : l[k]? = some h) : overs (l.take (k + 1)) = overs (l.take k) + (if h.life = 0 then h.count else 0) := by
 rw [take_snoc l k h hk, overs_append]; simp [overs]
theorem overs_take_le {l : List Hd} (h : ∀ x ∈ l, 0 ≤ x.count) (k : Nat) : 0 ≤ overs (l.take k) ∧ overs (l.take k) ≤ heldL l := by
 have h1 : 0 ≤ overs (l.take k) := overs_nonneg fun x hx => h x (List.mem_of_mem_take hx)
 have h2 : overs l = overs (l.take k) + overs (l.drop k) := by rw [← overs_append, List.take_append_drop]
 have h3 : 0 ≤ overs (l.drop k) := overs_nonneg fun x hx => h x (List.mem_of_mem_drop hx)
 have h4 := heldL_stays l
 have h5 : 0 ≤ heldL (stays l) := heldL_nonneg fun x hx => h x (List.mem_filter.1 hx).1
 omega
def agedTo (l : List Hd) (k : Nat) : List Hd := (l.take k).map aged ++ l.drop k
theorem agedTo_zero (l : List Hd) : agedTo l 0 = l := by simp [agedTo]
theorem agedTo_all (l : List Hd) : agedTo l l.length = l.map aged := by simp [agedTo]
theorem agedTo_len (l : List Hd) (k : Nat) : (agedTo l k).length = l.length := by
 unfold agedTo; rw [List.length_append, List.length_map, ← List.length_append, List.take_append_drop]
theorem agedTo_get (l : List Hd) (k : Nat) (hk : k < l.length) : (agedTo l k)[k]? = l[k]? := by
 unfold agedTo
 rw [List.getElem?_append_right (by simp; omega), List.length_map, List.length_take, Nat.min_eq_left (by omega), Nat.sub_self, List.getElem?_drop]; rfl
theorem agedTo_set (l : List Hd) (k : Nat) (x : Hd) (hx : l[k]? = some x) : (agedTo l k).set k (aged x) = agedTo l (k + 1) := by
 have hk := (List.getElem?_eq_some_iff.1 hx).1
 unfold agedTo
 rw [List.set_append_right _ _ (by simp; omega), List.length_map, List.length_take, Nat.min_eq_left (by omega), Nat.sub_self, drop_cons l k x hx, List.set_cons_zero, take_snoc l k x hx, List.map_append]
 simp
theorem own_ages {w : World} {base g n c k : Nat} {l : List Hd} {x : Hd} (h : w.ownsRow base 161 3 (.slice (some ⟨g, 0, none⟩) n c) n (l.flatMap Hd.cells)) (hx : l[k]? = some x) :
    (w.setCell ⟨g, k * 3 + 2, none⟩ (.int .i64 (x.life - 1))).ownsRow base 161 3 (.slice (some ⟨g, 0, none⟩) n c) n ((l.set k (aged x)).flatMap Hd.cells) := by
 have h1 := (h.stored (k * 3 + 2) (.int .i64 (x.life - 1))).1
 have e := flat_set Hd.cells_len l k 2 x (aged x) (.int .i64 (x.life - 1)) hx (by omega) rfl
 rw [e] at h1
 exact h1
theorem ShAt.row_ {w w' : World} {base g o : Nat} {cs : Array Value} {s : Shf} {v : Value} {l : List Hd} (h : ShAt w base g o cs s v) (hown : w'.ownsRow base 161 3 v l.length (l.flatMap Hd.cells)) (hb : Blk w' g 84 cs) : ShAt w' base g o cs { s with opn := l } v :=
 ⟨hb, h.has, hown⟩
end
end Go.Proofs.YtbolcebmbpepdaaGreatDoor
