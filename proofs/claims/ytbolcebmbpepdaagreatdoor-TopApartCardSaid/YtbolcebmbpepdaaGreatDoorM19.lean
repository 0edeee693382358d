/- Contracts and plain facts, set together by program out of smaller texts. Conditions: none beyond what each theorem states. -/
import Derived.Test.YtbolcebmbpepdaaGreatDoorM18
import Derived.Test.YtbolcebmbpepdaaGreatDoorM01
namespace Go.Proofs.YtbolcebmbpepdaaGreatDoor
set_option linter.unusedVariables false
section
open Go.RowKit
theorem zJe {n : Int} (h : n < 1 ∨ 1048576 < n) (k l i : Int) : zFr ⟨k, n, l, i⟩ = false := by unfold zFr; dsimp only; rcases h with h | h <;> simp <;> omega
theorem zFg {n : Int} (h1 : 1 ≤ n) (h2 : n ≤ 1048576) (k l i : Int) : zFr ⟨k, n, l, i⟩ = true := by unfold zFr; dsimp only; simp; omega
theorem zEb {s : Shf} {K : Int} (h : s.ok K) : s.free ≤ 1048576 ∧ s.used ≤ 1048576 ∧ 0 ≤ zAq s.opn ∧ zAq s.opn ≤ 1048576 := by
 have a1 := h.all
 have a2 := h.used0
 have a3 := h.free0
 have a4 : 0 ≤ zAq s.opn := zGe fun x hx => by have := h.each x hx; omega
 omega
set_option maxRecDepth 100000 in
set_option maxHeartbeats 2000000 in
theorem yAr (base g o : Nat) (cs : Array Value) (s : Shf) (v : Value) (w : World) (n life id K : Int) (h : ShAt w base g o cs s v) (hs : s.ok K) (hK : K ≤ 1000000) (hB : base ≤ w.heap.size) (hc : n < 1 ∨ 1048576 < n) :
    Calls Tryz.prog 102 #[.pointer (some ⟨g, o, none⟩), (⟨1, n, life, id⟩ : Ordr).val] w (zDy base g o cs v w (s.order ⟨1, n, life, id⟩)) := by
 unfold Ordr.val
 dsimp only
 obtain ⟨wx, hwx⟩ : ∃ wx, wx = w.alloc (.cells #[.int .i64 1, .int .i64 n, .int .i64 life, .int .i64 id] 130) := ⟨_, rfl⟩
 have hbx : Below w.heap.size w wx := by rw [hwx]; exact (Below.refl _ _).alloc (Nat.le_refl _) _
 have k0 : Blk wx w.heap.size 130 #[.int .i64 1, .int .i64 n, .int .i64 life, .int .i64 id] := by rw [hwx]; exact Blk.new w 130 _
 have hx := h.calm hbx
 have q0 := k0.cell 0
 have q1 := k0.cell 1
 have q2 := k0.cell 2
 have q3 := k0.cell 3
 have c0 := hx.c0
 have c1 := hx.c1
 have c3 := hx.c3
 have q0a := q0
 have q1a := q1
 have q2a := q2
 have q3a := q3
 have c3a := c3
 rw [hwx] at q0a q1a q2a q3a c3a
 have hf0 := hs.free0
 have hu0 := hs.used0
 obtain ⟨hf1, hu1, hh0, hh1⟩ := zEb hs
 have hll := hs.len
 have HX := hide hx
 have HBX := hide hbx
 have HWX := hide hwx
 have HS := hide hs
 obtain ⟨A, c, rfl, hnc⟩ := zAf h.own
 have HK0 := hide k0
 have HNE := hide (show g ≠ w.heap.size by have := h.blk.lt; omega)
 obtain ⟨m, hm⟩ : ∃ m, m = s.opn.length := ⟨_, rfl⟩
 have HM := hide hm
 rw [← hm] at c3 c3a hll hnc
 clear hx h hbx hs k0 hwx hm
 have HF := hide (show s.order ⟨1, n, life, id⟩ = (s, 0, 2) by unfold Shf.order; rw [zJe hc]; rfl)
 rcases hc with hc | hc
 ·have hd1 : decide (1 ≤ n) = false := decide_eq_false (by omega)
  go_enter Tryz.func102, Tryz.ntmps102
  go_wp2_with fail
  go_ret2
  rw [zAa HF, ← zAa HWX]
  exact zBw (zAa HX) (zAa HBX)
 ·have hc1 : 1 ≤ n := by omega
  have hd1 : decide (1 ≤ n) = true := decide_eq_true (by omega)
  have hd2 : decide (n ≤ 1048576) = false := decide_eq_false (by omega)
  go_enter Tryz.func102, Tryz.ntmps102
  go_wp2_with fail
  go_ret2
  rw [zAa HF, ← zAa HWX]
  exact zBw (zAa HX) (zAa HBX)
set_option maxRecDepth 100000 in
set_option maxHeartbeats 2000000 in
theorem yBi (base g o : Nat) (cs : Array Value) (s : Shf) (v : Value) (w : World) (n life id K : Int) (h : ShAt w base g o cs s v) (hs : s.ok K) (hK : K ≤ 1000000) (hB : base ≤ w.heap.size) (hc : n < 1 ∨ 1048576 < n) :
    Calls Tryz.prog 102 #[.pointer (some ⟨g, o, none⟩), (⟨2, n, life, id⟩ : Ordr).val] w (zDy base g o cs v w (s.order ⟨2, n, life, id⟩)) := by
 unfold Ordr.val
 dsimp only
 obtain ⟨wx, hwx⟩ : ∃ wx, wx = w.alloc (.cells #[.int .i64 2, .int .i64 n, .int .i64 life, .int .i64 id] 130) := ⟨_, rfl⟩
 have hbx : Below w.heap.size w wx := by rw [hwx]; exact (Below.refl _ _).alloc (Nat.le_refl _) _
 have k0 : Blk wx w.heap.size 130 #[.int .i64 2, .int .i64 n, .int .i64 life, .int .i64 id] := by rw [hwx]; exact Blk.new w 130 _
 have hx := h.calm hbx
 have q0 := k0.cell 0
 have q1 := k0.cell 1
 have q2 := k0.cell 2
 have q3 := k0.cell 3
 have c0 := hx.c0
 have c1 := hx.c1
 have c3 := hx.c3
 have q0a := q0
 have q1a := q1
 have q2a := q2
 have q3a := q3
 have c3a := c3
 rw [hwx] at q0a q1a q2a q3a c3a
 have hf0 := hs.free0
 have hu0 := hs.used0
 obtain ⟨hf1, hu1, hh0, hh1⟩ := zEb hs
 have hll := hs.len
 have HX := hide hx
 have HBX := hide hbx
 have HWX := hide hwx
 have HS := hide hs
 obtain ⟨A, c, rfl, hnc⟩ := zAf h.own
 have HK0 := hide k0
 have HNE := hide (show g ≠ w.heap.size by have := h.blk.lt; omega)
 obtain ⟨m, hm⟩ : ∃ m, m = s.opn.length := ⟨_, rfl⟩
 have HM := hide hm
 rw [← hm] at c3 c3a hll hnc
 clear hx h hbx hs k0 hwx hm
 have HF := hide (show s.order ⟨2, n, life, id⟩ = (s, 0, 2) by unfold Shf.order; rw [zJe hc]; rfl)
 rcases hc with hc | hc
 ·have hd1 : decide (1 ≤ n) = false := decide_eq_false (by omega)
  go_enter Tryz.func102, Tryz.ntmps102
  go_wp2_with fail
  go_ret2
  rw [zAa HF, ← zAa HWX]
  exact zBw (zAa HX) (zAa HBX)
 ·have hc1 : 1 ≤ n := by omega
  have hd1 : decide (1 ≤ n) = true := decide_eq_true (by omega)
  have hd2 : decide (n ≤ 1048576) = false := decide_eq_false (by omega)
  go_enter Tryz.func102, Tryz.ntmps102
  go_wp2_with fail
  go_ret2
  rw [zAa HF, ← zAa HWX]
  exact zBw (zAa HX) (zAa HBX)
set_option maxRecDepth 100000 in
set_option maxHeartbeats 2000000 in
theorem yBp (base g o : Nat) (cs : Array Value) (s : Shf) (v : Value) (w : World) (n life id K : Int) (h : ShAt w base g o cs s v) (hs : s.ok K) (hK : K ≤ 1000000) (hB : base ≤ w.heap.size) (hc : n < 1 ∨ 1048576 < n) :
    Calls Tryz.prog 102 #[.pointer (some ⟨g, o, none⟩), (⟨3, n, life, id⟩ : Ordr).val] w (zDy base g o cs v w (s.order ⟨3, n, life, id⟩)) := by
 unfold Ordr.val
 dsimp only
 obtain ⟨wx, hwx⟩ : ∃ wx, wx = w.alloc (.cells #[.int .i64 3, .int .i64 n, .int .i64 life, .int .i64 id] 130) := ⟨_, rfl⟩
 have hbx : Below w.heap.size w wx := by rw [hwx]; exact (Below.refl _ _).alloc (Nat.le_refl _) _
 have k0 : Blk wx w.heap.size 130 #[.int .i64 3, .int .i64 n, .int .i64 life, .int .i64 id] := by rw [hwx]; exact Blk.new w 130 _
 have hx := h.calm hbx
 have q0 := k0.cell 0
 have q1 := k0.cell 1
 have q2 := k0.cell 2
 have q3 := k0.cell 3
 have c0 := hx.c0
 have c1 := hx.c1
 have c3 := hx.c3
 have q0a := q0
 have q1a := q1
 have q2a := q2
 have q3a := q3
 have c3a := c3
 rw [hwx] at q0a q1a q2a q3a c3a
 have hf0 := hs.free0
 have hu0 := hs.used0
 obtain ⟨hf1, hu1, hh0, hh1⟩ := zEb hs
 have hll := hs.len
 have HX := hide hx
 have HBX := hide hbx
 have HWX := hide hwx
 have HS := hide hs
 obtain ⟨A, c, rfl, hnc⟩ := zAf h.own
 have HK0 := hide k0
 have HNE := hide (show g ≠ w.heap.size by have := h.blk.lt; omega)
 obtain ⟨m, hm⟩ : ∃ m, m = s.opn.length := ⟨_, rfl⟩
 have HM := hide hm
 rw [← hm] at c3 c3a hll hnc
 clear hx h hbx hs k0 hwx hm
 have HF := hide (show s.order ⟨3, n, life, id⟩ = (s, 0, 2) by unfold Shf.order; rw [zJe hc]; rfl)
 rcases hc with hc | hc
 ·have hd1 : decide (1 ≤ n) = false := decide_eq_false (by omega)
  go_enter Tryz.func102, Tryz.ntmps102
  go_wp2_with fail
  go_ret2
  rw [zAa HF, ← zAa HWX]
  exact zBw (zAa HX) (zAa HBX)
 ·have hc1 : 1 ≤ n := by omega
  have hd1 : decide (1 ≤ n) = true := decide_eq_true (by omega)
  have hd2 : decide (n ≤ 1048576) = false := decide_eq_false (by omega)
  go_enter Tryz.func102, Tryz.ntmps102
  go_wp2_with fail
  go_ret2
  rw [zAa HF, ← zAa HWX]
  exact zBw (zAa HX) (zAa HBX)
set_option maxRecDepth 100000 in
set_option maxHeartbeats 2000000 in
theorem yBg (base g o : Nat) (cs : Array Value) (s : Shf) (v : Value) (w : World) (n life id K : Int) (h : ShAt w base g o cs s v) (hs : s.ok K) (hK : K ≤ 1000000) (hB : base ≤ w.heap.size) (hc : n < 1 ∨ 1048576 < n) :
    Calls Tryz.prog 102 #[.pointer (some ⟨g, o, none⟩), (⟨6, n, life, id⟩ : Ordr).val] w (zDy base g o cs v w (s.order ⟨6, n, life, id⟩)) := by
 unfold Ordr.val
 dsimp only
 obtain ⟨wx, hwx⟩ : ∃ wx, wx = w.alloc (.cells #[.int .i64 6, .int .i64 n, .int .i64 life, .int .i64 id] 130) := ⟨_, rfl⟩
 have hbx : Below w.heap.size w wx := by rw [hwx]; exact (Below.refl _ _).alloc (Nat.le_refl _) _
 have k0 : Blk wx w.heap.size 130 #[.int .i64 6, .int .i64 n, .int .i64 life, .int .i64 id] := by rw [hwx]; exact Blk.new w 130 _
 have hx := h.calm hbx
 have q0 := k0.cell 0
 have q1 := k0.cell 1
 have q2 := k0.cell 2
 have q3 := k0.cell 3
 have c0 := hx.c0
 have c1 := hx.c1
 have c3 := hx.c3
 have q0a := q0
 have q1a := q1
 have q2a := q2
 have q3a := q3
 have c3a := c3
 rw [hwx] at q0a q1a q2a q3a c3a
 have hf0 := hs.free0
 have hu0 := hs.used0
 obtain ⟨hf1, hu1, hh0, hh1⟩ := zEb hs
 have hll := hs.len
 have HX := hide hx
 have HBX := hide hbx
 have HWX := hide hwx
 have HS := hide hs
 obtain ⟨A, c, rfl, hnc⟩ := zAf h.own
 have HK0 := hide k0
 have HNE := hide (show g ≠ w.heap.size by have := h.blk.lt; omega)
 obtain ⟨m, hm⟩ : ∃ m, m = s.opn.length := ⟨_, rfl⟩
 have HM := hide hm
 rw [← hm] at c3 c3a hll hnc
 clear hx h hbx hs k0 hwx hm
 have HF := hide (show s.order ⟨6, n, life, id⟩ = (s, 0, 2) by unfold Shf.order; rw [zJe hc]; rfl)
 rcases hc with hc | hc
 ·have hd1 : decide (1 ≤ n) = false := decide_eq_false (by omega)
  go_enter Tryz.func102, Tryz.ntmps102
  go_wp2_with fail
  go_ret2
  rw [zAa HF, ← zAa HWX]
  exact zBw (zAa HX) (zAa HBX)
 ·have hc1 : 1 ≤ n := by omega
  have hd1 : decide (1 ≤ n) = true := decide_eq_true (by omega)
  have hd2 : decide (n ≤ 1048576) = false := decide_eq_false (by omega)
  go_enter Tryz.func102, Tryz.ntmps102
  go_wp2_with fail
  go_ret2
  rw [zAa HF, ← zAa HWX]
  exact zBw (zAa HX) (zAa HBX)
set_option maxRecDepth 100000 in
set_option maxHeartbeats 2000000 in
theorem zZu (base g o : Nat) (cs : Array Value) (s : Shf) (v : Value) (w : World) (kind : Int) (n life id K : Int) (h : ShAt w base g o cs s v) (hs : s.ok K) (hK : K ≤ 1000000) (hB : base ≤ w.heap.size) (hk : kind < 1 ∨ 7 < kind) :
    Calls Tryz.prog 102 #[.pointer (some ⟨g, o, none⟩), (⟨kind, n, life, id⟩ : Ordr).val] w (zDy base g o cs v w (s.order ⟨kind, n, life, id⟩)) := by
 unfold Ordr.val
 dsimp only
 obtain ⟨wx, hwx⟩ : ∃ wx, wx = w.alloc (.cells #[.int .i64 kind, .int .i64 n, .int .i64 life, .int .i64 id] 130) := ⟨_, rfl⟩
 have hbx : Below w.heap.size w wx := by rw [hwx]; exact (Below.refl _ _).alloc (Nat.le_refl _) _
 have k0 : Blk wx w.heap.size 130 #[.int .i64 kind, .int .i64 n, .int .i64 life, .int .i64 id] := by rw [hwx]; exact Blk.new w 130 _
 have hx := h.calm hbx
 have q0 := k0.cell 0
 have q1 := k0.cell 1
 have q2 := k0.cell 2
 have q3 := k0.cell 3
 have c0 := hx.c0
 have c1 := hx.c1
 have c3 := hx.c3
 have q0a := q0
 have q1a := q1
 have q2a := q2
 have q3a := q3
 have c3a := c3
 rw [hwx] at q0a q1a q2a q3a c3a
 have hf0 := hs.free0
 have hu0 := hs.used0
 obtain ⟨hf1, hu1, hh0, hh1⟩ := zEb hs
 have hll := hs.len
 have HX := hide hx
 have HBX := hide hbx
 have HWX := hide hwx
 have HS := hide hs
 obtain ⟨A, c, rfl, hnc⟩ := zAf h.own
 have HK0 := hide k0
 have HNE := hide (show g ≠ w.heap.size by have := h.blk.lt; omega)
 obtain ⟨m, hm⟩ : ∃ m, m = s.opn.length := ⟨_, rfl⟩
 have HM := hide hm
 rw [← hm] at c3 c3a hll hnc
 clear hx h hbx hs k0 hwx hm
 have HF := hide (show s.order ⟨kind, n, life, id⟩ = (s, 0, 3) by
  unfold Shf.order
  have ha : zCw kind = false := by unfold zCw; simp; omega
  rw [ha]
  simp only [Bool.false_and, Bool.false_eq_true, if_false]
  rw [if_neg (by omega), if_neg (by omega), if_neg (by omega), if_neg (by omega), if_neg (by omega), if_neg (by omega), if_neg (by omega)])
 have e1 : (kind == 1) = false := by simp; omega
 have e2 : (kind == 2) = false := by simp; omega
 have e3 : (kind == 3) = false := by simp; omega
 have e4 : (kind == 4) = false := by simp; omega
 have e5 : (kind == 5) = false := by simp; omega
 have e6 : (kind == 6) = false := by simp; omega
 have e7 : (kind == 7) = false := by simp; omega
 clear hk
 by_cases hc : n < 1
 ·go_enter Tryz.func102, Tryz.ntmps102
  go_wp2_with fail
  go_ret2
  rw [zAa HF, ← zAa HWX]
  exact zBw (zAa HX) (zAa HBX)
 ·have hc1 : 1 ≤ n := by omega
  clear hc
  go_enter Tryz.func102, Tryz.ntmps102
  go_wp2_with fail
  go_ret2
  rw [zAa HF, ← zAa HWX]
  exact zBw (zAa HX) (zAa HBX)
set_option maxRecDepth 100000 in
set_option maxHeartbeats 2000000 in
theorem order3 (base g o : Nat) (cs : Array Value) (s : Shf) (v : Value) (w : World) (n life id K : Int) (h : ShAt w base g o cs s v) (hs : s.ok K) (hK : K ≤ 1000000) (hB : base ≤ w.heap.size) (hc1 : 1 ≤ n) (hc2 : n ≤ 1048576) :
    Calls Tryz.prog 102 #[.pointer (some ⟨g, o, none⟩), (⟨3, n, life, id⟩ : Ordr).val] w (zDy base g o cs v w (s.order ⟨3, n, life, id⟩)) := by
 unfold Ordr.val
 dsimp only
 obtain ⟨wx, hwx⟩ : ∃ wx, wx = w.alloc (.cells #[.int .i64 3, .int .i64 n, .int .i64 life, .int .i64 id] 130) := ⟨_, rfl⟩
 have hbx : Below w.heap.size w wx := by rw [hwx]; exact (Below.refl _ _).alloc (Nat.le_refl _) _
 have k0 : Blk wx w.heap.size 130 #[.int .i64 3, .int .i64 n, .int .i64 life, .int .i64 id] := by rw [hwx]; exact Blk.new w 130 _
 have hx := h.calm hbx
 have q0 := k0.cell 0
 have q1 := k0.cell 1
 have q2 := k0.cell 2
 have q3 := k0.cell 3
 have c0 := hx.c0
 have c1 := hx.c1
 have c3 := hx.c3
 have q0a := q0
 have q1a := q1
 have q2a := q2
 have q3a := q3
 have c3a := c3
 rw [hwx] at q0a q1a q2a q3a c3a
 have hf0 := hs.free0
 have hu0 := hs.used0
 obtain ⟨hf1, hu1, hh0, hh1⟩ := zEb hs
 have hll := hs.len
 have HX := hide hx
 have HBX := hide hbx
 have HWX := hide hwx
 have HS := hide hs
 obtain ⟨A, c, rfl, hnc⟩ := zAf h.own
 have HK0 := hide k0
 have HNE := hide (show g ≠ w.heap.size by have := h.blk.lt; omega)
 obtain ⟨m, hm⟩ : ∃ m, m = s.opn.length := ⟨_, rfl⟩
 have HM := hide hm
 rw [← hm] at c3 c3a hll hnc
 clear hx h hbx hs k0 hwx hm
 have HF := hide (show s.order ⟨3, n, life, id⟩ = zHi s ⟨3, n, life, id⟩ by
  unfold Shf.order zHi
  rw [zFg hc1 hc2]
  simp [zCw])
 have HH := hide (zTh base g o cs s (.slice A s.opn.length c) wx ⟨3, n, life, id⟩ K (zAa HX) (zAa HS) hK hc1 hc2 (Nat.le_trans hB (zAa HBX).size))
 unfold Ordr.val at HH
 dsimp only at HH
 have hd1 : decide (1 ≤ n) = true := decide_eq_true (by omega)
 have hd2 : decide (n ≤ 1048576) = true := decide_eq_true (by omega)
 go_enter Tryz.func102, Tryz.ntmps102
 go_wp2_with fail
 rw [← zAa HWX]
 refine (zAa HH).mono ?_
 intro e w' hp
 have HP := hide hp
 obtain ⟨v', he, hp2⟩ := hp
 subst he
 go_wp2_with fail
 go_ret2
 rw [zAa HF]
 obtain ⟨v2, he2, hs2, ho2, ha2⟩ := zAa HP
 refine ⟨v2, he2, hs2, (Only.of_below (zAa HBX) fun x hx hB => by omega).trans ho2 (fun x _ h => h), fun k hk => ?_⟩
 rcases ha2 k hk with h1 | h1
 ·exact .inl h1
 ·exact .inr (Nat.le_trans (zAa HBX).size h1)
set_option maxRecDepth 100000 in
set_option maxHeartbeats 2000000 in
theorem zYe (base g o : Nat) (cs : Array Value) (s : Shf) (v : Value) (w : World) (n life id K : Int) (h : ShAt w base g o cs s v) (hs : s.ok K) (hK : K ≤ 1000000) (hB : base ≤ w.heap.size) (hc1 : 1 ≤ n) (hc2 : n ≤ 1048576) (hov : 1048576 < s.free + zAq s.opn + s.used + n) :
    Calls Tryz.prog 102 #[.pointer (some ⟨g, o, none⟩), (⟨1, n, life, id⟩ : Ordr).val] w (zDy base g o cs v w (s.order ⟨1, n, life, id⟩)) := by
 unfold Ordr.val
 dsimp only
 obtain ⟨wx, hwx⟩ : ∃ wx, wx = w.alloc (.cells #[.int .i64 1, .int .i64 n, .int .i64 life, .int .i64 id] 130) := ⟨_, rfl⟩
 have hbx : Below w.heap.size w wx := by rw [hwx]; exact (Below.refl _ _).alloc (Nat.le_refl _) _
 have k0 : Blk wx w.heap.size 130 #[.int .i64 1, .int .i64 n, .int .i64 life, .int .i64 id] := by rw [hwx]; exact Blk.new w 130 _
 have hx := h.calm hbx
 have q0 := k0.cell 0
 have q1 := k0.cell 1
 have q2 := k0.cell 2
 have q3 := k0.cell 3
 have c0 := hx.c0
 have c1 := hx.c1
 have c3 := hx.c3
 have q0a := q0
 have q1a := q1
 have q2a := q2
 have q3a := q3
 have c3a := c3
 rw [hwx] at q0a q1a q2a q3a c3a
 have hf0 := hs.free0
 have hu0 := hs.used0
 obtain ⟨hf1, hu1, hh0, hh1⟩ := zEb hs
 have hll := hs.len
 have HX := hide hx
 have HBX := hide hbx
 have HWX := hide hwx
 have HS := hide hs
 obtain ⟨A, c, rfl, hnc⟩ := zAf h.own
 have HK0 := hide k0
 have HNE := hide (show g ≠ w.heap.size by have := h.blk.lt; omega)
 obtain ⟨m, hm⟩ : ∃ m, m = s.opn.length := ⟨_, rfl⟩
 have HM := hide hm
 rw [← hm] at c3 c3a hll hnc
 clear hx h hbx hs k0 hwx hm
 have HF := hide (show s.order ⟨1, n, life, id⟩ = (s, 0, 12) by
  unfold Shf.order
  rw [zFg hc1 hc2]
  simp [zCw, hov])
 have HH := hide (fun W (hW : Below wx.heap.size wx W) => zIx base g o cs s (.slice A s.opn.length c) W ((zAa HX).calm hW) (zAa HS).len (fun x hx => by have := (zAa HS).each x hx; omega))
 have cc0 := fun n : Ext wx => n.cell c0
 have cc1 := fun n : Ext wx => n.cell c1
 have cq1 := fun n : Ext wx => n.cell q1
 have s1 : IntKind.i64.wrap (s.free + zAq s.opn) = s.free + zAq s.opn := IntWalk.i64_in _ (by omega)
 have s2 : IntKind.i64.wrap (s.free + zAq s.opn + s.used) = s.free + zAq s.opn + s.used := IntWalk.i64_in _ (by omega)
 have s3 : IntKind.i64.wrap (s.free + zAq s.opn + s.used + n) = s.free + zAq s.opn + s.used + n := IntWalk.i64_in _ (by omega)
 have HS123 := hide (And.intro s1 (And.intro s2 s3))
 clear s1 s2 s3
 have hd1 : decide (1 ≤ n) = true := decide_eq_true (by omega)
 have hd2 : decide (n ≤ 1048576) = true := decide_eq_true (by omega)
 go_enter Tryz.func102, Tryz.ntmps102
 go_wp2_with fail
 rw [← zAa HWX]
 obtain ⟨s1, s2, s3⟩ := zAa HS123
 refine zCr (by kernel_rfl) (by kernel_rfl) ?_
 repeat (go_big_quiet_step ((go_at_call 49; exact zDi (zAa HH _ (Ext.h _)))))
 refine wpQuiet_nil ?_
 rintro _ ⟨nq, rfl⟩
 clear s1 s2 s3
 go_wp2_with fail
 go_ret2
 rw [zAa HF]
 exact zBw ((zAa HX).calm nq.h) ((zAa HBX).trans (nq.h.mono (zAa HBX).size))
set_option maxRecDepth 100000 in
set_option maxHeartbeats 2000000 in
theorem yBx (base g o : Nat) (cs : Array Value) (s : Shf) (v : Value) (w : World) (n life id K : Int) (h : ShAt w base g o cs s v) (hs : s.ok K) (hK : K ≤ 1000000) (hB : base ≤ w.heap.size) (hc1 : 1 ≤ n) (hc2 : n ≤ 1048576) (hov : s.free + zAq s.opn + s.used + n ≤ 1048576) :
    Calls Tryz.prog 102 #[.pointer (some ⟨g, o, none⟩), (⟨1, n, life, id⟩ : Ordr).val] w (zDy base g o cs v w (s.order ⟨1, n, life, id⟩)) := by
 unfold Ordr.val
 dsimp only
 obtain ⟨wx, hwx⟩ : ∃ wx, wx = w.alloc (.cells #[.int .i64 1, .int .i64 n, .int .i64 life, .int .i64 id] 130) := ⟨_, rfl⟩
 have hbx : Below w.heap.size w wx := by rw [hwx]; exact (Below.refl _ _).alloc (Nat.le_refl _) _
 have k0 : Blk wx w.heap.size 130 #[.int .i64 1, .int .i64 n, .int .i64 life, .int .i64 id] := by rw [hwx]; exact Blk.new w 130 _
 have hx := h.calm hbx
 have q0 := k0.cell 0
 have q1 := k0.cell 1
 have q2 := k0.cell 2
 have q3 := k0.cell 3
 have c0 := hx.c0
 have c1 := hx.c1
 have c3 := hx.c3
 have q0a := q0
 have q1a := q1
 have q2a := q2
 have q3a := q3
 have c3a := c3
 rw [hwx] at q0a q1a q2a q3a c3a
 have hf0 := hs.free0
 have hu0 := hs.used0
 obtain ⟨hf1, hu1, hh0, hh1⟩ := zEb hs
 have hll := hs.len
 have HX := hide hx
 have HBX := hide hbx
 have HWX := hide hwx
 have HS := hide hs
 obtain ⟨A, c, rfl, hnc⟩ := zAf h.own
 have HK0 := hide k0
 have HNE := hide (show g ≠ w.heap.size by have := h.blk.lt; omega)
 obtain ⟨m, hm⟩ : ∃ m, m = s.opn.length := ⟨_, rfl⟩
 have HM := hide hm
 rw [← hm] at c3 c3a hll hnc
 clear hx h hbx hs k0 hwx hm
 have HF := hide (show s.order ⟨1, n, life, id⟩ = (⟨s.free + n, s.used, s.made, s.opn⟩, 0, 0) by
  unfold Shf.order
  rw [zFg hc1 hc2, if_neg (by simp [zCw]), if_pos rfl, if_neg (by dsimp only; omega)])
 have HH := hide (fun W (hW : Below wx.heap.size wx W) => zIx base g o cs s (.slice A s.opn.length c) W ((zAa HX).calm hW) (zAa HS).len (fun x hx => by have := (zAa HS).each x hx; omega))
 have cc0 := fun n : Ext wx => n.cell c0
 have cc1 := fun n : Ext wx => n.cell c1
 have cq1 := fun n : Ext wx => n.cell q1
 have s1 : IntKind.i64.wrap (s.free + zAq s.opn) = s.free + zAq s.opn := IntWalk.i64_in _ (by omega)
 have s2 : IntKind.i64.wrap (s.free + zAq s.opn + s.used) = s.free + zAq s.opn + s.used := IntWalk.i64_in _ (by omega)
 have s3 : IntKind.i64.wrap (s.free + zAq s.opn + s.used + n) = s.free + zAq s.opn + s.used + n := IntWalk.i64_in _ (by omega)
 have HS123 := hide (And.intro s1 (And.intro s2 s3))
 clear s1 s2 s3
 have hd1 : decide (1 ≤ n) = true := decide_eq_true (by omega)
 have hd2 : decide (n ≤ 1048576) = true := decide_eq_true (by omega)
 go_enter Tryz.func102, Tryz.ntmps102
 go_wp2_with fail
 rw [← zAa HWX]
 obtain ⟨s1, s2, s3⟩ := zAa HS123
 refine zCr (by kernel_rfl) (by kernel_rfl) ?_
 repeat (go_big_quiet_step ((go_at_call 49; exact zDi (zAa HH _ (Ext.h _)))))
 refine wpQuiet_nil ?_
 rintro _ ⟨nq, rfl⟩
 clear s1 s2 s3
 go_wp2_with fail
 have hx2 := (zAa HX).calm nq.h
 have d0 := hx2.c0
 have f0 := hx2.fr o
 have k2 := (zAa HK0).below nq.h (zAa HK0).lt
 have r1 := k2.cell 1
 have HX2 := hide hx2
 clear hx2 k2
 refine zCo 9 (by kernel_rfl) (by kernel_rfl) ?_
 simp only [List.take_succ_cons, List.take_zero, List.drop_succ_cons, List.drop_zero]
 repeat (go_big_quiet_step (fail))
 refine wpQuiet_nil ?_
 rintro _ ⟨nq2, rfl⟩
 go_wp2_with fail
 go_ret2
 rw [zAa HF]
 refine ⟨.slice A s.opn.length c, rfl, ((zAa HX2).calm (below_drewN (Below.refl _ _) nq2)).free_ (s.free + n), ?_, fun k hk => .inl hk⟩
 have h1 : Only (fun k => k = g ∨ Value.ownBlock (.slice A s.opn.length c) = some k) w wx := Only.of_below (zAa HBX) fun x hx hB => by omega
 exact Only.setCell (((h1.calm nq.h).drewN nq2)) (fun _ => .inl rfl) _
set_option maxRecDepth 100000 in
set_option maxHeartbeats 2000000 in
theorem zWq (base g o : Nat) (cs : Array Value) (s : Shf) (v : Value) (w : World) (n life id K : Int) (h : ShAt w base g o cs s v) (hs : s.ok K) (hK : K ≤ 1000000) (hB : base ≤ w.heap.size) (hc1 : 1 ≤ n) (hc2 : n ≤ 1048576) (hls : s.free < n) :
    Calls Tryz.prog 102 #[.pointer (some ⟨g, o, none⟩), (⟨2, n, life, id⟩ : Ordr).val] w (zDy base g o cs v w (s.order ⟨2, n, life, id⟩)) := by
 unfold Ordr.val
 dsimp only
 obtain ⟨wx, hwx⟩ : ∃ wx, wx = w.alloc (.cells #[.int .i64 2, .int .i64 n, .int .i64 life, .int .i64 id] 130) := ⟨_, rfl⟩
 have hbx : Below w.heap.size w wx := by rw [hwx]; exact (Below.refl _ _).alloc (Nat.le_refl _) _
 have k0 : Blk wx w.heap.size 130 #[.int .i64 2, .int .i64 n, .int .i64 life, .int .i64 id] := by rw [hwx]; exact Blk.new w 130 _
 have hx := h.calm hbx
 have q0 := k0.cell 0
 have q1 := k0.cell 1
 have q2 := k0.cell 2
 have q3 := k0.cell 3
 have c0 := hx.c0
 have c1 := hx.c1
 have c3 := hx.c3
 have q0a := q0
 have q1a := q1
 have q2a := q2
 have q3a := q3
 have c3a := c3
 rw [hwx] at q0a q1a q2a q3a c3a
 have hf0 := hs.free0
 have hu0 := hs.used0
 obtain ⟨hf1, hu1, hh0, hh1⟩ := zEb hs
 have hll := hs.len
 have HX := hide hx
 have HBX := hide hbx
 have HWX := hide hwx
 have HS := hide hs
 obtain ⟨A, c, rfl, hnc⟩ := zAf h.own
 have HK0 := hide k0
 have HNE := hide (show g ≠ w.heap.size by have := h.blk.lt; omega)
 obtain ⟨m, hm⟩ : ∃ m, m = s.opn.length := ⟨_, rfl⟩
 have HM := hide hm
 rw [← hm] at c3 c3a hll hnc
 clear hx h hbx hs k0 hwx hm
 have HF := hide (show s.order ⟨2, n, life, id⟩ = (s, 0, 9) by
  unfold Shf.order
  rw [zFg hc1 hc2]
  simp [zCw, hls])
 have HSH := hide (fun N => zKg (.pointer (some ⟨g, o, none⟩)) g (o) (o + 1) s.free n (wx.drewN N) c0 hls)
 have hd1 : decide (1 ≤ n) = true := decide_eq_true (by omega)
 have hd2 : decide (n ≤ 1048576) = true := decide_eq_true (by omega)
 go_enter Tryz.func102, Tryz.ntmps102
 go_wp2_with fail
 rw [← zAa HWX]
 refine zCn [] [0, 1, 2, 3, 4, 5, 6, 7, 8] [] [] 9 [10, 11] (by kernel_rfl) (by kernel_rfl) (by intro c a d v w h; cases d <;> exact h) ?_
 simp only [zAb, List.map_cons, List.map_nil, List.getD_cons_zero, List.getD_cons_succ]
 refine wpQuiet_nil ?_
 repeat (go_big_quiet_step (fail))
 refine wpQuiet_nil (wpQuiet_nil ?_)
 rintro _ ⟨nq, rfl⟩
 simp only [wpAl]
 go_wp2_with fail
 refine (zAa HSH nq).mono ?_
 rintro _ _ ⟨rfl, rfl⟩
 go_wp2_with fail
 go_ret2
 rw [zAa HF]
 exact zBw ((zAa HX).calm (below_drewN (Below.refl _ _) nq)) (below_drewN (zAa HBX) nq)
set_option maxRecDepth 100000 in
set_option maxHeartbeats 2000000 in
theorem yDm (base g o : Nat) (cs : Array Value) (s : Shf) (v : Value) (w : World) (n life id K : Int) (h : ShAt w base g o cs s v) (hs : s.ok K) (hK : K ≤ 1000000) (hB : base ≤ w.heap.size) (hc1 : 1 ≤ n) (hc2 : n ≤ 1048576) (hls : n ≤ s.free) :
    Calls Tryz.prog 102 #[.pointer (some ⟨g, o, none⟩), (⟨2, n, life, id⟩ : Ordr).val] w (zDy base g o cs v w (s.order ⟨2, n, life, id⟩)) := by
 unfold Ordr.val
 dsimp only
 obtain ⟨wx, hwx⟩ : ∃ wx, wx = w.alloc (.cells #[.int .i64 2, .int .i64 n, .int .i64 life, .int .i64 id] 130) := ⟨_, rfl⟩
 have hbx : Below w.heap.size w wx := by rw [hwx]; exact (Below.refl _ _).alloc (Nat.le_refl _) _
 have k0 : Blk wx w.heap.size 130 #[.int .i64 2, .int .i64 n, .int .i64 life, .int .i64 id] := by rw [hwx]; exact Blk.new w 130 _
 have hx := h.calm hbx
 have q0 := k0.cell 0
 have q1 := k0.cell 1
 have q2 := k0.cell 2
 have q3 := k0.cell 3
 have c0 := hx.c0
 have c1 := hx.c1
 have c3 := hx.c3
 have q0a := q0
 have q1a := q1
 have q2a := q2
 have q3a := q3
 have c3a := c3
 rw [hwx] at q0a q1a q2a q3a c3a
 have hf0 := hs.free0
 have hu0 := hs.used0
 obtain ⟨hf1, hu1, hh0, hh1⟩ := zEb hs
 have hll := hs.len
 have HX := hide hx
 have HBX := hide hbx
 have HWX := hide hwx
 have HS := hide hs
 obtain ⟨A, c, rfl, hnc⟩ := zAf h.own
 have HK0 := hide k0
 have HNE := hide (show g ≠ w.heap.size by have := h.blk.lt; omega)
 obtain ⟨m, hm⟩ : ∃ m, m = s.opn.length := ⟨_, rfl⟩
 have HM := hide hm
 rw [← hm] at c3 c3a hll hnc
 clear hx h hbx hs k0 hwx hm
 have HF := hide (show s.order ⟨2, n, life, id⟩ = (⟨s.free - n, s.used + n, s.made, s.opn⟩, 0, 0) by
  unfold Shf.order
  rw [zFg hc1 hc2]
  simp [zCw, show ¬ s.free < n by omega])
 have HSH := hide (fun N => zMp (.pointer (some ⟨g, o, none⟩)) g (o) (o + 1) s.free s.used n (wx.drewN N) c0 c1 ((zAa HX).fr _) ((zAa HX).fr _) (by omega) hls (by omega) (by omega) (by omega) (by omega))
 have hd1 : decide (1 ≤ n) = true := decide_eq_true (by omega)
 have hd2 : decide (n ≤ 1048576) = true := decide_eq_true (by omega)
 go_enter Tryz.func102, Tryz.ntmps102
 go_wp2_with fail
 rw [← zAa HWX]
 refine zCn [] [0, 1, 2, 3, 4, 5, 6, 7, 8] [] [] 9 [10, 11] (by kernel_rfl) (by kernel_rfl) (by intro c a d v w h; cases d <;> exact h) ?_
 simp only [zAb, List.map_cons, List.map_nil, List.getD_cons_zero, List.getD_cons_succ]
 refine wpQuiet_nil ?_
 repeat (go_big_quiet_step (fail))
 refine wpQuiet_nil (wpQuiet_nil ?_)
 rintro _ ⟨nq, rfl⟩
 simp only [wpAl]
 go_wp2_with fail
 refine (zAa HSH nq).mono ?_
 rintro _ w4 ⟨rfl, hw4⟩
 have hx4 := (ShAt.free_ ((zAa HX).calm (below_drewN (Below.refl _ _) nq)) (s.free - n)).used_ (s.used + n)
 rw [zGb _ _ _ _ (by simp [Shf.cells])] at hx4
 have hO4 : Only (fun k => k = g) wx w4 := by rw [← hw4]; exact Only.setCell (D := fun k => k = g) (Only.setCell (D := fun k => k = g) ((Only.refl _ wx).drewN nq) (p := ⟨g, o, none⟩) (fun _ => rfl) _) (p := ⟨g, o + 1, none⟩) (fun _ => rfl) _
 have hx5 : ShAt w4 base g o _ _ _ := hw4 ▸ hx4
 have HX4 := hide hx5
 have HO4 := hide hO4
 clear hx4 hx5 hO4 hw4
 go_wp2_with fail
 go_ret2
 rw [zAa HF]
 refine ⟨.slice A s.opn.length c, rfl, zAa HX4, ?_, fun k hk => .inl hk⟩
 have h1 : Only (fun k => k = g ∨ Value.ownBlock (.slice A s.opn.length c) = some k) w wx := Only.of_below (zAa HBX) fun x hx hB => by omega
 exact h1.trans (zAa HO4) (fun x _ h => .inl h)
set_option maxRecDepth 100000 in
set_option maxHeartbeats 2000000 in
theorem zWr (base g o : Nat) (cs : Array Value) (s : Shf) (v : Value) (w : World) (n life id K : Int) (h : ShAt w base g o cs s v) (hs : s.ok K) (hK : K ≤ 1000000) (hB : base ≤ w.heap.size) (hc1 : 1 ≤ n) (hc2 : n ≤ 1048576) (hls : s.used < n) :
    Calls Tryz.prog 102 #[.pointer (some ⟨g, o, none⟩), (⟨6, n, life, id⟩ : Ordr).val] w (zDy base g o cs v w (s.order ⟨6, n, life, id⟩)) := by
 unfold Ordr.val
 dsimp only
 obtain ⟨wx, hwx⟩ : ∃ wx, wx = w.alloc (.cells #[.int .i64 6, .int .i64 n, .int .i64 life, .int .i64 id] 130) := ⟨_, rfl⟩
 have hbx : Below w.heap.size w wx := by rw [hwx]; exact (Below.refl _ _).alloc (Nat.le_refl _) _
 have k0 : Blk wx w.heap.size 130 #[.int .i64 6, .int .i64 n, .int .i64 life, .int .i64 id] := by rw [hwx]; exact Blk.new w 130 _
 have hx := h.calm hbx
 have q0 := k0.cell 0
 have q1 := k0.cell 1
 have q2 := k0.cell 2
 have q3 := k0.cell 3
 have c0 := hx.c0
 have c1 := hx.c1
 have c3 := hx.c3
 have q0a := q0
 have q1a := q1
 have q2a := q2
 have q3a := q3
 have c3a := c3
 rw [hwx] at q0a q1a q2a q3a c3a
 have hf0 := hs.free0
 have hu0 := hs.used0
 obtain ⟨hf1, hu1, hh0, hh1⟩ := zEb hs
 have hll := hs.len
 have HX := hide hx
 have HBX := hide hbx
 have HWX := hide hwx
 have HS := hide hs
 obtain ⟨A, c, rfl, hnc⟩ := zAf h.own
 have HK0 := hide k0
 have HNE := hide (show g ≠ w.heap.size by have := h.blk.lt; omega)
 obtain ⟨m, hm⟩ : ∃ m, m = s.opn.length := ⟨_, rfl⟩
 have HM := hide hm
 rw [← hm] at c3 c3a hll hnc
 clear hx h hbx hs k0 hwx hm
 have HF := hide (show s.order ⟨6, n, life, id⟩ = (s, 0, 9) by
  unfold Shf.order
  rw [zFg hc1 hc2]
  simp [zCw, hls])
 have HSH := hide (fun N => zKg (.pointer (some ⟨g, o, none⟩)) g (o + 1) (o) s.used n (wx.drewN N) c1 hls)
 have hd1 : decide (1 ≤ n) = true := decide_eq_true (by omega)
 have hd2 : decide (n ≤ 1048576) = true := decide_eq_true (by omega)
 go_enter Tryz.func102, Tryz.ntmps102
 go_wp2_with fail
 rw [← zAa HWX]
 refine zCn [] [0, 1, 2, 3, 4, 5, 6, 7, 8] [] [] 9 [10, 11] (by kernel_rfl) (by kernel_rfl) (by intro c a d v w h; cases d <;> exact h) ?_
 simp only [zAb, List.map_cons, List.map_nil, List.getD_cons_zero, List.getD_cons_succ]
 refine wpQuiet_nil ?_
 repeat (go_big_quiet_step (fail))
 refine wpQuiet_nil (wpQuiet_nil ?_)
 rintro _ ⟨nq, rfl⟩
 simp only [wpAl]
 go_wp2_with fail
 refine (zAa HSH nq).mono ?_
 rintro _ _ ⟨rfl, rfl⟩
 go_wp2_with fail
 go_ret2
 rw [zAa HF]
 exact zBw ((zAa HX).calm (below_drewN (Below.refl _ _) nq)) (below_drewN (zAa HBX) nq)
set_option maxRecDepth 100000 in
set_option maxHeartbeats 2000000 in
theorem yDy (base g o : Nat) (cs : Array Value) (s : Shf) (v : Value) (w : World) (n life id K : Int) (h : ShAt w base g o cs s v) (hs : s.ok K) (hK : K ≤ 1000000) (hB : base ≤ w.heap.size) (hc1 : 1 ≤ n) (hc2 : n ≤ 1048576) (hls : n ≤ s.used) :
    Calls Tryz.prog 102 #[.pointer (some ⟨g, o, none⟩), (⟨6, n, life, id⟩ : Ordr).val] w (zDy base g o cs v w (s.order ⟨6, n, life, id⟩)) := by
 unfold Ordr.val
 dsimp only
 obtain ⟨wx, hwx⟩ : ∃ wx, wx = w.alloc (.cells #[.int .i64 6, .int .i64 n, .int .i64 life, .int .i64 id] 130) := ⟨_, rfl⟩
 have hbx : Below w.heap.size w wx := by rw [hwx]; exact (Below.refl _ _).alloc (Nat.le_refl _) _
 have k0 : Blk wx w.heap.size 130 #[.int .i64 6, .int .i64 n, .int .i64 life, .int .i64 id] := by rw [hwx]; exact Blk.new w 130 _
 have hx := h.calm hbx
 have q0 := k0.cell 0
 have q1 := k0.cell 1
 have q2 := k0.cell 2
 have q3 := k0.cell 3
 have c0 := hx.c0
 have c1 := hx.c1
 have c3 := hx.c3
 have q0a := q0
 have q1a := q1
 have q2a := q2
 have q3a := q3
 have c3a := c3
 rw [hwx] at q0a q1a q2a q3a c3a
 have hf0 := hs.free0
 have hu0 := hs.used0
 obtain ⟨hf1, hu1, hh0, hh1⟩ := zEb hs
 have hll := hs.len
 have HX := hide hx
 have HBX := hide hbx
 have HWX := hide hwx
 have HS := hide hs
 obtain ⟨A, c, rfl, hnc⟩ := zAf h.own
 have HK0 := hide k0
 have HNE := hide (show g ≠ w.heap.size by have := h.blk.lt; omega)
 obtain ⟨m, hm⟩ : ∃ m, m = s.opn.length := ⟨_, rfl⟩
 have HM := hide hm
 rw [← hm] at c3 c3a hll hnc
 clear hx h hbx hs k0 hwx hm
 have HF := hide (show s.order ⟨6, n, life, id⟩ = (⟨s.free + n, s.used - n, s.made, s.opn⟩, 0, 0) by
  unfold Shf.order
  rw [zFg hc1 hc2]
  simp [zCw, show ¬ s.used < n by omega])
 have HSH := hide (fun N => zMp (.pointer (some ⟨g, o, none⟩)) g (o + 1) (o) s.used s.free n (wx.drewN N) c1 c0 ((zAa HX).fr _) ((zAa HX).fr _) (by omega) hls (by omega) (by omega) (by omega) (by omega))
 have hd1 : decide (1 ≤ n) = true := decide_eq_true (by omega)
 have hd2 : decide (n ≤ 1048576) = true := decide_eq_true (by omega)
 go_enter Tryz.func102, Tryz.ntmps102
 go_wp2_with fail
 rw [← zAa HWX]
 refine zCn [] [0, 1, 2, 3, 4, 5, 6, 7, 8] [] [] 9 [10, 11] (by kernel_rfl) (by kernel_rfl) (by intro c a d v w h; cases d <;> exact h) ?_
 simp only [zAb, List.map_cons, List.map_nil, List.getD_cons_zero, List.getD_cons_succ]
 refine wpQuiet_nil ?_
 repeat (go_big_quiet_step (fail))
 refine wpQuiet_nil (wpQuiet_nil ?_)
 rintro _ ⟨nq, rfl⟩
 simp only [wpAl]
 go_wp2_with fail
 refine (zAa HSH nq).mono ?_
 rintro _ w4 ⟨rfl, hw4⟩
 have hx4 := (ShAt.used_ ((zAa HX).calm (below_drewN (Below.refl _ _) nq)) (s.used - n)).free_ (s.free + n)
 rw [zGb _ _ _ _ (by simp [Shf.cells])] at hx4
 have hO4 : Only (fun k => k = g) wx w4 := by rw [← hw4]; exact Only.setCell (D := fun k => k = g) (Only.setCell (D := fun k => k = g) ((Only.refl _ wx).drewN nq) (p := ⟨g, o + 1, none⟩) (fun _ => rfl) _) (p := ⟨g, o, none⟩) (fun _ => rfl) _
 have hx5 : ShAt w4 base g o _ _ _ := hw4 ▸ hx4
 have HX4 := hide hx5
 have HO4 := hide hO4
 clear hx4 hx5 hO4 hw4
 go_wp2_with fail
 go_ret2
 rw [zAa HF]
 refine ⟨.slice A s.opn.length c, rfl, zAa HX4, ?_, fun k hk => .inl hk⟩
 have h1 : Only (fun k => k = g ∨ Value.ownBlock (.slice A s.opn.length c) = some k) w wx := Only.of_below (zAa HBX) fun x hx hB => by omega
 exact h1.trans (zAa HO4) (fun x _ h => .inl h)
set_option maxRecDepth 100000 in
set_option maxHeartbeats 2000000 in
theorem order4 (base g o : Nat) (cs : Array Value) (s : Shf) (v : Value) (w : World) (n life id K : Int) (h : ShAt w base g o cs s v) (hs : s.ok K) (hK : K ≤ 1000000) (hB : base ≤ w.heap.size)  :
    Calls Tryz.prog 102 #[.pointer (some ⟨g, o, none⟩), (⟨4, n, life, id⟩ : Ordr).val] w (zDy base g o cs v w (s.order ⟨4, n, life, id⟩)) := by
 unfold Ordr.val
 dsimp only
 obtain ⟨wx, hwx⟩ : ∃ wx, wx = w.alloc (.cells #[.int .i64 4, .int .i64 n, .int .i64 life, .int .i64 id] 130) := ⟨_, rfl⟩
 have hbx : Below w.heap.size w wx := by rw [hwx]; exact (Below.refl _ _).alloc (Nat.le_refl _) _
 have k0 : Blk wx w.heap.size 130 #[.int .i64 4, .int .i64 n, .int .i64 life, .int .i64 id] := by rw [hwx]; exact Blk.new w 130 _
 have hx := h.calm hbx
 have q0 := k0.cell 0
 have q1 := k0.cell 1
 have q2 := k0.cell 2
 have q3 := k0.cell 3
 have c0 := hx.c0
 have c1 := hx.c1
 have c3 := hx.c3
 have q0a := q0
 have q1a := q1
 have q2a := q2
 have q3a := q3
 have c3a := c3
 rw [hwx] at q0a q1a q2a q3a c3a
 have hf0 := hs.free0
 have hu0 := hs.used0
 obtain ⟨hf1, hu1, hh0, hh1⟩ := zEb hs
 have hll := hs.len
 have HX := hide hx
 have HBX := hide hbx
 have HWX := hide hwx
 have HS := hide hs
 obtain ⟨A, c, rfl, hnc⟩ := zAf h.own
 have HK0 := hide k0
 have HNE := hide (show g ≠ w.heap.size by have := h.blk.lt; omega)
 obtain ⟨m, hm⟩ : ∃ m, m = s.opn.length := ⟨_, rfl⟩
 have HM := hide hm
 rw [← hm] at c3 c3a hll hnc
 clear hx h hbx hs k0 hwx hm
 have HF := hide (show s.order ⟨4, n, life, id⟩ = ((zEf s id true).1, 0, (zEf s id true).2) by
  unfold Shf.order
  simp [zCw])
 have HC := hide (fun N => zKu base g o cs s (.slice A s.opn.length c) (wx.drewN N) id true K ((zAa HX).calm (below_drewN (Below.refl _ _) N)) (zAa HS) hK (Nat.le_trans hB (zAa HBX).size))
 by_cases hc : n < 1
 all_goals
  first | (have hd1 : decide (1 ≤ n) = false := decide_eq_false (by omega)) | (have hd1 : decide (1 ≤ n) = true := decide_eq_true (by omega))
  go_enter Tryz.func102, Tryz.ntmps102
  go_wp2_with fail
  rw [← zAa HWX]
  refine zCn [] [0, 1, 2, 3, 4, 5] [] [] 6 [7, 8] (by kernel_rfl) (by kernel_rfl) (by intro c a d v w h; cases d <;> exact h) ?_
  simp only [zAb, List.map_cons, List.map_nil, List.getD_cons_zero, List.getD_cons_succ]
  refine wpQuiet_nil ?_
  repeat (go_big_quiet_step (fail))
  refine wpQuiet_nil (wpQuiet_nil ?_)
  rintro _ ⟨nq, rfl⟩
  simp only [wpAl]
  go_wp2_with fail
  refine (zAa HC nq).mono ?_
  intro e w' hp
  have HP := hide hp
  obtain ⟨v', he, hp2⟩ := hp
  subst he
  clear hp2
  go_wp2_with fail
  go_ret2
  rw [zAa HF]
  obtain ⟨v2, he2, hs2, ho2, ha2⟩ := zAa HP
  refine ⟨v2, rfl, hs2, ?_, fun k hk => ?_⟩
  ·have h1 : Only (fun k => k = g ∨ Value.ownBlock (.slice A s.opn.length c) = some k) w wx := Only.of_below (zAa HBX) fun x hx hB => by omega
   exact (h1.drewN nq).trans ho2 (fun x _ h => h)
  ·rcases ha2 k hk with h1 | h1
   ·exact .inl h1
   ·exact .inr (Nat.le_trans (zAa HBX).size h1)
set_option maxRecDepth 100000 in
set_option maxHeartbeats 2000000 in
theorem order5 (base g o : Nat) (cs : Array Value) (s : Shf) (v : Value) (w : World) (n life id K : Int) (h : ShAt w base g o cs s v) (hs : s.ok K) (hK : K ≤ 1000000) (hB : base ≤ w.heap.size)  :
    Calls Tryz.prog 102 #[.pointer (some ⟨g, o, none⟩), (⟨5, n, life, id⟩ : Ordr).val] w (zDy base g o cs v w (s.order ⟨5, n, life, id⟩)) := by
 unfold Ordr.val
 dsimp only
 obtain ⟨wx, hwx⟩ : ∃ wx, wx = w.alloc (.cells #[.int .i64 5, .int .i64 n, .int .i64 life, .int .i64 id] 130) := ⟨_, rfl⟩
 have hbx : Below w.heap.size w wx := by rw [hwx]; exact (Below.refl _ _).alloc (Nat.le_refl _) _
 have k0 : Blk wx w.heap.size 130 #[.int .i64 5, .int .i64 n, .int .i64 life, .int .i64 id] := by rw [hwx]; exact Blk.new w 130 _
 have hx := h.calm hbx
 have q0 := k0.cell 0
 have q1 := k0.cell 1
 have q2 := k0.cell 2
 have q3 := k0.cell 3
 have c0 := hx.c0
 have c1 := hx.c1
 have c3 := hx.c3
 have q0a := q0
 have q1a := q1
 have q2a := q2
 have q3a := q3
 have c3a := c3
 rw [hwx] at q0a q1a q2a q3a c3a
 have hf0 := hs.free0
 have hu0 := hs.used0
 obtain ⟨hf1, hu1, hh0, hh1⟩ := zEb hs
 have hll := hs.len
 have HX := hide hx
 have HBX := hide hbx
 have HWX := hide hwx
 have HS := hide hs
 obtain ⟨A, c, rfl, hnc⟩ := zAf h.own
 have HK0 := hide k0
 have HNE := hide (show g ≠ w.heap.size by have := h.blk.lt; omega)
 obtain ⟨m, hm⟩ : ∃ m, m = s.opn.length := ⟨_, rfl⟩
 have HM := hide hm
 rw [← hm] at c3 c3a hll hnc
 clear hx h hbx hs k0 hwx hm
 have HF := hide (show s.order ⟨5, n, life, id⟩ = ((zEf s id false).1, 0, (zEf s id false).2) by
  unfold Shf.order
  simp [zCw])
 have HC := hide (fun N => zKu base g o cs s (.slice A s.opn.length c) (wx.drewN N) id false K ((zAa HX).calm (below_drewN (Below.refl _ _) N)) (zAa HS) hK (Nat.le_trans hB (zAa HBX).size))
 by_cases hc : n < 1
 all_goals
  first | (have hd1 : decide (1 ≤ n) = false := decide_eq_false (by omega)) | (have hd1 : decide (1 ≤ n) = true := decide_eq_true (by omega))
  go_enter Tryz.func102, Tryz.ntmps102
  go_wp2_with fail
  rw [← zAa HWX]
  refine zCn [] [0, 1, 2, 3, 4, 5] [] [] 6 [7, 8] (by kernel_rfl) (by kernel_rfl) (by intro c a d v w h; cases d <;> exact h) ?_
  simp only [zAb, List.map_cons, List.map_nil, List.getD_cons_zero, List.getD_cons_succ]
  refine wpQuiet_nil ?_
  repeat (go_big_quiet_step (fail))
  refine wpQuiet_nil (wpQuiet_nil ?_)
  rintro _ ⟨nq, rfl⟩
  simp only [wpAl]
  go_wp2_with fail
  refine (zAa HC nq).mono ?_
  intro e w' hp
  have HP := hide hp
  obtain ⟨v', he, hp2⟩ := hp
  subst he
  clear hp2
  go_wp2_with fail
  go_ret2
  rw [zAa HF]
  obtain ⟨v2, he2, hs2, ho2, ha2⟩ := zAa HP
  refine ⟨v2, rfl, hs2, ?_, fun k hk => ?_⟩
  ·have h1 : Only (fun k => k = g ∨ Value.ownBlock (.slice A s.opn.length c) = some k) w wx := Only.of_below (zAa HBX) fun x hx hB => by omega
   exact (h1.drewN nq).trans ho2 (fun x _ h => h)
  ·rcases ha2 k hk with h1 | h1
   ·exact .inl h1
   ·exact .inr (Nat.le_trans (zAa HBX).size h1)
end
section
open Go.RowKit
theorem zOu (x : Hd) (w : World) :
    Calls Tryz.prog 122 #[.agg #[.int .i64 x.id, .int .i64 x.count, .int .i64 x.life]] w fun e w' => e = .returned (.bool (x.life == 0)) ∧ Below w.heap.size w w' := by
 go_enter Tryz.func122, Tryz.ntmps122
 go_wp2_with fail
 go_ret
 exact ⟨rfl, (Below.refl _ _).alloc (Nat.le_refl _) _⟩
theorem zQv (args : Array Value) (W : World) : (callFunc 122 args).run Tryz.prog W = .ok (.enter 122 args) W :=
 zDh Tryz.func122 (by kernel_rfl) rfl args W
theorem zMw (a b : List Hd) : zCd (a ++ b) = zCd a + zCd b := by
 induction a with
 | nil => simp [zCd]
 | cons h l ih => simp [zCd, ih]; omega
theorem yBf (l : List Hd) (k : Nat) (h : Hd) (hk : l[k]? = some h) : zCd (l.take (k + 1)) = zCd (l.take k) + (if h.life = 0 then h.count else 0) := by
 rw [zBp l k h hk, zMw]; simp [zCd]
theorem zMj {l : List Hd} (h : ∀ x ∈ l, 0 ≤ x.count) (k : Nat) : 0 ≤ zCd (l.take k) ∧ zCd (l.take k) ≤ zAq l := by
 have h1 : 0 ≤ zCd (l.take k) := zJz fun x hx => h x (List.mem_of_mem_take hx)
 have h2 : zCd l = zCd (l.take k) + zCd (l.drop k) := by rw [← zMw, List.take_append_drop]
 have h3 : 0 ≤ zCd (l.drop k) := zJz fun x hx => h x (List.mem_of_mem_drop hx)
 have h4 := zOj l
 have h5 : 0 ≤ zAq (stays l) := zGe fun x hx => h x (List.mem_filter.1 hx).1
 omega
def zEi (l : List Hd) (k : Nat) : List Hd := (l.take k).map aged ++ l.drop k
theorem zXo (l : List Hd) : zEi l 0 = l := by simp [zEi]
theorem yAe (l : List Hd) : zEi l l.length = l.map aged := by simp [zEi]
theorem zMh (l : List Hd) (k : Nat) : (zEi l k).length = l.length := by
 unfold zEi; rw [List.length_append, List.length_map, ← List.length_append, List.take_append_drop]
theorem yAp (l : List Hd) (k : Nat) (hk : k < l.length) : (zEi l k)[k]? = l[k]? := by
 unfold zEi
 rw [List.getElem?_append_right (by simp; omega), List.length_map, List.length_take, Nat.min_eq_left (by omega), Nat.sub_self, List.getElem?_drop]; rfl
theorem yBc (l : List Hd) (k : Nat) (x : Hd) (hx : l[k]? = some x) : (zEi l k).set k (aged x) = zEi l (k + 1) := by
 have hk := (List.getElem?_eq_some_iff.1 hx).1
 unfold zEi
 rw [List.set_append_right _ _ (by simp; omega), List.length_map, List.length_take, Nat.min_eq_left (by omega), Nat.sub_self, zCb l k x hx, List.set_cons_zero, zBp l k x hx, List.map_append]
 simp
theorem own_ages {w : World} {base g n c k : Nat} {l : List Hd} {x : Hd} (h : w.ownsRow base 161 3 (.slice (some ⟨g, 0, none⟩) n c) n (l.flatMap Hd.cells)) (hx : l[k]? = some x) :
    (w.setCell ⟨g, k * 3 + 2, none⟩ (.int .i64 (x.life - 1))).ownsRow base 161 3 (.slice (some ⟨g, 0, none⟩) n c) n ((l.set k (aged x)).flatMap Hd.cells) := by
 have h1 := (h.stored (k * 3 + 2) (.int .i64 (x.life - 1))).1
 have e := zGg Hd.cells_len l k 2 x (aged x) (.int .i64 (x.life - 1)) hx (by omega) rfl
 rw [e] at h1
 exact h1
theorem ShAt.row_ {w w' : World} {base g o : Nat} {cs : Array Value} {s : Shf} {v : Value} {l : List Hd} (h : ShAt w base g o cs s v) (hown : w'.ownsRow base 161 3 v l.length (l.flatMap Hd.cells)) (hb : Blk w' g 84 cs) : ShAt w' base g o cs { s with opn := l } v :=
 ⟨hb, h.has, hown⟩
end
end Go.Proofs.YtbolcebmbpepdaaGreatDoor
