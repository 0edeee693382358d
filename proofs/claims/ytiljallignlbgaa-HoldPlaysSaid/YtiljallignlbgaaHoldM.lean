/- Contract of a rack's order (the reference): holds, confirming, cancelling. Conditions: none beyond what each theorem states. (Written by wip/gen/rackorder.py.) -/
import Derived.Test.YtiljallignlbgaaHoldL
namespace Go.Proofs.Ytiljallignlbgaa
open Go.RowKit
set_option linter.unusedVariables false

theorem info_int1 : (Try.prog.info? 3).map (fun i => (i.zero, i.size, i.bytes)) = some (some (.int .i64 0), 1, 8) := by kernel_rfl
theorem int_info1 : ∃ i, Try.prog.info? 3 = some i ∧ i.zero = some (.int .i64 0) ∧ i.size = 1 ∧ i.bytes = 8 := by
  have h := info_int1
  cases hi : Try.prog.info? 3 with
  | none => rw [hi] at h; simp at h
  | some i => rw [hi] at h; simp at h; exact ⟨i, rfl, h.1, h.2.1, h.2.2⟩
/-- a rack whose two rows may be of different lengths -/
structure RkRaw (w : World) (base g o : Nat) (cs : Array Value) (f u : Int) (vc vl : Value) (xs ys : List Value) : Prop where
  blk : Blk w g 57 cs
  has : Has cs o [.int .i64 f, .int .i64 u, vc, vl]
  oc : w.ownsRow base 3 1 vc xs.length xs
  ol : w.ownsRow base 3 1 vl ys.length ys
  ne : ∀ k, vc.ownBlock = some k → vl.ownBlock = some k → False
section
variable {w w' : World} {base g o : Nat} {cs : Array Value} {f u : Int} {vc vl : Value} {xs ys : List Value}
theorem RkAt.raw {r : Rk} (h : RkAt w base g o cs r vc vl) : RkRaw w base g o cs r.free r.used vc vl (r.rows.map cntV) (r.rows.map lftV) := ⟨h.blk, h.has, by simpa using h.oc, by simpa using h.ol, h.ne⟩
theorem RkRaw.at {r : Rk} (h : RkRaw w base g o cs r.free r.used vc vl (r.rows.map cntV) (r.rows.map lftV)) : RkAt w base g o cs r vc vl := ⟨h.blk, h.has, by simpa using h.oc, by simpa using h.ol, h.ne⟩
theorem RkRaw.lt (h : RkRaw w base g o cs f u vc vl xs ys) : ∀ k, RkD g vc vl k → k < w.heap.size := fun k hk => by
  rcases hk with rfl | hk | hk
  · exact h.blk.lt
  · exact (h.oc.lt k hk).2
  · exact (h.ol.lt k hk).2
theorem RkRaw.only {D : Nat → Prop} (h : RkRaw w base g o cs f u vc vl xs ys) (ho : Only D w w') (h1 : ∀ k, RkD g vc vl k → ¬ D k) : RkRaw w' base g o cs f u vc vl xs ys :=
  ⟨h.blk.only ho (h1 g (.inl rfl)), h.has, own_only h.oc ho (fun k hk => h1 k (.inr (.inl hk))), own_only h.ol ho (fun k hk => h1 k (.inr (.inr hk))), h.ne⟩
theorem RkRaw.calm (h : RkRaw w base g o cs f u vc vl xs ys) (hb : Below w.heap.size w w') : RkRaw w' base g o cs f u vc vl xs ys :=
  h.only (D := fun k => w.heap.size ≤ k) (Only.of_below hb fun _ _ h => h) (fun k hk => by have := h.lt k hk; omega)
theorem RkRaw.nc (h : RkRaw w base g o cs f u vc vl xs ys) : vc.ownBlock ≠ some g := own_blk_ne h.oc h.blk (by decide)
theorem RkRaw.nl (h : RkRaw w base g o cs f u vc vl xs ys) : vl.ownBlock ≠ some g := own_blk_ne h.ol h.blk (by decide)
/-- the counts grow by one, and are stored -/
theorem RkRaw.pushC (h : RkRaw w base g o cs f u vc vl xs ys) {w1 : World} {g4 cap : Nat} {x : Value} (hg : w.grownBy w1 vc.ownBlock) (hat : some g4 = vc.ownBlock ∨ g4 = w.heap.size + 1) (hown : w1.ownsRow base 3 1 (.slice (some ⟨g4, 0, none⟩) (xs.length + 1) cap) (xs.length + 1) (xs ++ [x])) :
    RkRaw (w1.setCell ⟨g, o + 2, none⟩ (.slice (some ⟨g4, 0, none⟩) (xs.length + 1) cap)) base g o (putAt cs o [.int .i64 f, .int .i64 u, .slice (some ⟨g4, 0, none⟩) (xs.length + 1) cap, vl]) f u (.slice (some ⟨g4, 0, none⟩) (xs.length + 1) cap) vl (xs ++ [x]) ys := by
  have hb := h.blk.grown hg (Ne.symm h.nc)
  have hne : ∀ k, some g4 = some k → vl.ownBlock = some k → False := fun k hk hl => by
    injection hk with hk
    subst hk
    rcases hat with e | e
    · exact h.ne _ e.symm hl
    · have := (h.ol.lt _ hl).2; omega
  have hol : w1.ownsRow base 3 1 vl ys.length ys := World.ownsRow.kept h.ol hg (by
    by_cases e : vl.ownBlock = none
    · exact .inl e
    · right
      intro e2
      cases hv : vl.ownBlock with
      | none => exact e hv
      | some k => exact h.ne k (by rw [← e2, hv]) hv)
  refine ⟨hb.put_ (j := 2) h.has (by simp) _, Has.putAt _ _ _ (h.has.le (by simp)), World.ownsRow.kept (by simpa using hown) (only_setCell (World.grownBy.refl w1 (some g)) (.inl rfl) _) (.inr (own_blk_ne hown hb (by decide))), World.ownsRow.kept hol (only_setCell (World.grownBy.refl w1 (some g)) (.inl rfl) _) (.inr (own_blk_ne hol hb (by decide))), fun k hk hl => hne k hk hl⟩
theorem RkRaw.pushL (h : RkRaw w base g o cs f u vc vl xs ys) {w1 : World} {g4 cap : Nat} {x : Value} (hg : w.grownBy w1 vl.ownBlock) (hat : some g4 = vl.ownBlock ∨ g4 = w.heap.size + 1) (hown : w1.ownsRow base 3 1 (.slice (some ⟨g4, 0, none⟩) (ys.length + 1) cap) (ys.length + 1) (ys ++ [x])) :
    RkRaw (w1.setCell ⟨g, o + 3, none⟩ (.slice (some ⟨g4, 0, none⟩) (ys.length + 1) cap)) base g o (putAt cs o [.int .i64 f, .int .i64 u, vc, .slice (some ⟨g4, 0, none⟩) (ys.length + 1) cap]) f u vc (.slice (some ⟨g4, 0, none⟩) (ys.length + 1) cap) xs (ys ++ [x]) := by
  have hb := h.blk.grown hg (Ne.symm h.nl)
  have hne : ∀ k, some g4 = some k → vc.ownBlock = some k → False := fun k hk hl => by
    injection hk with hk
    subst hk
    rcases hat with e | e
    · exact h.ne _ hl e.symm
    · have := (h.oc.lt _ hl).2; omega
  have hoc : w1.ownsRow base 3 1 vc xs.length xs := World.ownsRow.kept h.oc hg (by
    by_cases e : vc.ownBlock = none
    · exact .inl e
    · right
      intro e2
      cases hv : vc.ownBlock with
      | none => exact e hv
      | some k => exact h.ne k hv (by rw [← e2, hv]))
  refine ⟨hb.put_ (j := 3) h.has (by simp) _, Has.putAt _ _ _ (h.has.le (by simp)), World.ownsRow.kept hoc (only_setCell (World.grownBy.refl w1 (some g)) (.inl rfl) _) (.inr (own_blk_ne hoc hb (by decide))), World.ownsRow.kept (by simpa using hown) (only_setCell (World.grownBy.refl w1 (some g)) (.inl rfl) _) (.inr (own_blk_ne hown hb (by decide))), fun k hk hl => hne k hl hk⟩
end

set_option maxRecDepth 100000 in
set_option maxHeartbeats 3000000 in
theorem rack3_life (base g o : Nat) (cs : Array Value) (r : Rk) (vc vl : Value) (w : World) (n life id : Int) (K : Nat) (h : RkAt w base g o cs r vc vl) (hs : r.ok K) (hK : K ≤ 1000000 - 1) (hB : base ≤ w.heap.size) (hc1 : 1 ≤ n) (hc2 : n ≤ 1048576) (hl : life < 1 ∨ 20 < life) :
    Calls Try.prog 24 #[.pointer (some ⟨g, o, none⟩), (⟨3, n, life, id⟩ : Ordr).val] w (RkPost base g o cs vc vl w (r.order ⟨3, n, life, id⟩)) := by
  unfold Ordr.val
  dsimp only
  obtain ⟨wx, hwx⟩ : ∃ wx, wx = w.alloc (.cells #[.int .i64 3, .int .i64 n, .int .i64 life, .int .i64 id] 53) := ⟨_, rfl⟩
  have hbx : Below w.heap.size w wx := by rw [hwx]; exact (Below.refl _ _).alloc (Nat.le_refl _) _
  have k0 : Blk wx w.heap.size 53 #[.int .i64 3, .int .i64 n, .int .i64 life, .int .i64 id] := by rw [hwx]; exact Blk.new w 53 _
  have hx := h.calm hbx
  have q0 := k0.cell 0
  have q1 := k0.cell 1
  have q2 := k0.cell 2
  have q3 := k0.cell 3
  have c0 := hx.c0
  have c1 := hx.c1
  have q0a := q0
  have q1a := q1
  have q2a := q2
  have q3a := q3
  have c0a := c0
  have c1a := c1
  rw [hwx] at q0a q1a q2a q3a c0a c1a
  have hf0 := hs.free0
  have hu0 := hs.used0
  have hall := hs.all
  have hhb := heldR_bound hs.rows
  obtain ⟨hh0, _⟩ := hhb
  have hh1 : heldR r.rows ≤ 1048576 := by omega
  have hf1 : r.free ≤ 1048576 := by omega
  have hu1 : r.used ≤ 1048576 := by omega
  have hlen := hs.len
  have HX := hide hx
  have HBX := hide hbx
  have HWX := hide hwx
  have HS := hide hs
  have HK0 := hide k0
  have HLT := hide h.lt
  clear hx h hbx hs k0 hwx hall
  have HF := hide (show r.order ⟨3, n, life, id⟩ = (r, 0, 2) by
    unfold Rk.order
    rw [rcounted_yes hc1 hc2]
    simp [asksCount, hl])
  have hd1 : decide (n < 1) = false := decide_eq_false (by omega)
  have hd2 : decide (1048576 < n) = false := decide_eq_false (by omega)
  by_cases h1 : life < 1
  · have l1 : decide (life < 1) = true := decide_eq_true h1
    clear hl
    go_enter Try.func24, Try.ntmps24
    go_wp2_with fail
    go_ret2
    rw [unhide HF, ← unhide HWX]
    exact rkPost_same (unhide HX) (unhide HBX)
  · have l1 : decide (life < 1) = false := decide_eq_false h1
    have l2 : decide (20 < life) = true := decide_eq_true (by omega)
    clear hl
    go_enter Try.func24, Try.ntmps24
    go_wp2_with fail
    go_ret2
    rw [unhide HF, ← unhide HWX]
    exact rkPost_same (unhide HX) (unhide HBX)

set_option maxRecDepth 100000 in
set_option maxHeartbeats 3000000 in
theorem rack3_full (base g o : Nat) (cs : Array Value) (r : Rk) (vc vl : Value) (w : World) (n life id : Int) (K : Nat) (h : RkAt w base g o cs r vc vl) (hs : r.ok K) (hK : K ≤ 1000000 - 1) (hB : base ≤ w.heap.size) (hc1 : 1 ≤ n) (hc2 : n ≤ 1048576) (hl1 : 1 ≤ life) (hl2 : life ≤ 20) (hf : 4 ≤ opensR r.rows) :
    Calls Try.prog 24 #[.pointer (some ⟨g, o, none⟩), (⟨3, n, life, id⟩ : Ordr).val] w (RkPost base g o cs vc vl w (r.order ⟨3, n, life, id⟩)) := by
  unfold Ordr.val
  dsimp only
  obtain ⟨wx, hwx⟩ : ∃ wx, wx = w.alloc (.cells #[.int .i64 3, .int .i64 n, .int .i64 life, .int .i64 id] 53) := ⟨_, rfl⟩
  have hbx : Below w.heap.size w wx := by rw [hwx]; exact (Below.refl _ _).alloc (Nat.le_refl _) _
  have k0 : Blk wx w.heap.size 53 #[.int .i64 3, .int .i64 n, .int .i64 life, .int .i64 id] := by rw [hwx]; exact Blk.new w 53 _
  have hx := h.calm hbx
  have q0 := k0.cell 0
  have q1 := k0.cell 1
  have q2 := k0.cell 2
  have q3 := k0.cell 3
  have c0 := hx.c0
  have c1 := hx.c1
  have q0a := q0
  have q1a := q1
  have q2a := q2
  have q3a := q3
  have c0a := c0
  have c1a := c1
  rw [hwx] at q0a q1a q2a q3a c0a c1a
  have hf0 := hs.free0
  have hu0 := hs.used0
  have hall := hs.all
  have hhb := heldR_bound hs.rows
  obtain ⟨hh0, _⟩ := hhb
  have hh1 : heldR r.rows ≤ 1048576 := by omega
  have hf1 : r.free ≤ 1048576 := by omega
  have hu1 : r.used ≤ 1048576 := by omega
  have hlen := hs.len
  have HX := hide hx
  have HBX := hide hbx
  have HWX := hide hwx
  have HS := hide hs
  have HK0 := hide k0
  have HLT := hide h.lt
  clear hx h hbx hs k0 hwx hall
  have HF := hide (show r.order ⟨3, n, life, id⟩ = (r, 0, 8) by
    unfold Rk.order
    rw [rcounted_yes hc1 hc2]
    simp [asksCount, show ¬ (life < 1 ∨ 20 < life) by omega, hf])
  have HOP := hide (rackOpens_any base g o cs r vc vl wx K (unhide HX) (unhide HS) (by omega))
  have l1 : decide (life < 1) = false := decide_eq_false (by omega)
  have l2 : decide (20 < life) = false := decide_eq_false (by omega)
  have HWY := HWX
  obtain ⟨m, hm⟩ : ∃ m, m = opensR r.rows := ⟨_, rfl⟩
  rw [← hm] at HOP hf
  clear hm
  have hf' : (4 : Int) ≤ (m : Int) := by omega
  have hd1 : decide (n < 1) = false := decide_eq_false (by omega)
  have hd2 : decide (1048576 < n) = false := decide_eq_false (by omega)
  go_enter Try.func24, Try.ntmps24
  go_wp2_with fail
  rw [← unhide HWX]
  refine (unhide HOP).mono ?_
  rintro _ _ ⟨rfl, rfl⟩
  go_wp2_with fail
  go_ret2
  rw [unhide HF]
  exact rkPost_same (unhide HX) (unhide HBX)

set_option maxRecDepth 100000 in
set_option maxHeartbeats 3000000 in
theorem rack3_less (base g o : Nat) (cs : Array Value) (r : Rk) (vc vl : Value) (w : World) (n life id : Int) (K : Nat) (h : RkAt w base g o cs r vc vl) (hs : r.ok K) (hK : K ≤ 1000000 - 1) (hB : base ≤ w.heap.size) (hc1 : 1 ≤ n) (hc2 : n ≤ 1048576) (hl1 : 1 ≤ life) (hl2 : life ≤ 20) (hf : opensR r.rows < 4) (hls : r.free < n) :
    Calls Try.prog 24 #[.pointer (some ⟨g, o, none⟩), (⟨3, n, life, id⟩ : Ordr).val] w (RkPost base g o cs vc vl w (r.order ⟨3, n, life, id⟩)) := by
  unfold Ordr.val
  dsimp only
  obtain ⟨wx, hwx⟩ : ∃ wx, wx = w.alloc (.cells #[.int .i64 3, .int .i64 n, .int .i64 life, .int .i64 id] 53) := ⟨_, rfl⟩
  have hbx : Below w.heap.size w wx := by rw [hwx]; exact (Below.refl _ _).alloc (Nat.le_refl _) _
  have k0 : Blk wx w.heap.size 53 #[.int .i64 3, .int .i64 n, .int .i64 life, .int .i64 id] := by rw [hwx]; exact Blk.new w 53 _
  have hx := h.calm hbx
  have q0 := k0.cell 0
  have q1 := k0.cell 1
  have q2 := k0.cell 2
  have q3 := k0.cell 3
  have c0 := hx.c0
  have c1 := hx.c1
  have q0a := q0
  have q1a := q1
  have q2a := q2
  have q3a := q3
  have c0a := c0
  have c1a := c1
  rw [hwx] at q0a q1a q2a q3a c0a c1a
  have hf0 := hs.free0
  have hu0 := hs.used0
  have hall := hs.all
  have hhb := heldR_bound hs.rows
  obtain ⟨hh0, _⟩ := hhb
  have hh1 : heldR r.rows ≤ 1048576 := by omega
  have hf1 : r.free ≤ 1048576 := by omega
  have hu1 : r.used ≤ 1048576 := by omega
  have hlen := hs.len
  have HX := hide hx
  have HBX := hide hbx
  have HWX := hide hwx
  have HS := hide hs
  have HK0 := hide k0
  have HLT := hide h.lt
  clear hx h hbx hs k0 hwx hall
  have HF := hide (show r.order ⟨3, n, life, id⟩ = (r, 0, 9) by
    unfold Rk.order
    rw [rcounted_yes hc1 hc2]
    simp [asksCount, show ¬ (life < 1 ∨ 20 < life) by omega, show ¬ 4 ≤ opensR r.rows by omega, hls])
  have HOP := hide (rackOpens_any base g o cs r vc vl wx K (unhide HX) (unhide HS) (by omega))
  have l1 : decide (life < 1) = false := decide_eq_false (by omega)
  have l2 : decide (20 < life) = false := decide_eq_false (by omega)
  obtain ⟨m, hm⟩ : ∃ m, m = opensR r.rows := ⟨_, rfl⟩
  rw [← hm] at HOP hf
  clear hm
  have hf' : (m : Int) < 4 := by omega
  have hd1 : decide (n < 1) = false := decide_eq_false (by omega)
  have hd2 : decide (1048576 < n) = false := decide_eq_false (by omega)
  go_enter Try.func24, Try.ntmps24
  go_wp2_with fail
  rw [← unhide HWX]
  refine (unhide HOP).mono ?_
  rintro _ _ ⟨rfl, rfl⟩
  go_wp2_with fail
  go_quiet (fail)
  go_wp2_with fail
  go_ret2
  rw [unhide HF]
  exact rkPost_same ((unhide HX).calm (below_drewN (Below.refl _ _) nq)) (below_drewN (unhide HBX) nq)

set_option maxRecDepth 100000 in
set_option maxHeartbeats 3000000 in
theorem rack3_ok (base g o : Nat) (cs : Array Value) (r : Rk) (vc vl : Value) (w : World) (n life id : Int) (K : Nat) (h : RkAt w base g o cs r vc vl) (hs : r.ok K) (hK : K ≤ 1000000 - 1) (hB : base ≤ w.heap.size) (hc1 : 1 ≤ n) (hc2 : n ≤ 1048576) (hl1 : 1 ≤ life) (hl2 : life ≤ 20) (hf : opensR r.rows < 4) (hls : n ≤ r.free) :
    Calls Try.prog 24 #[.pointer (some ⟨g, o, none⟩), (⟨3, n, life, id⟩ : Ordr).val] w (RkPost base g o cs vc vl w (r.order ⟨3, n, life, id⟩)) := by
  unfold Ordr.val
  dsimp only
  obtain ⟨wx, hwx⟩ : ∃ wx, wx = w.alloc (.cells #[.int .i64 3, .int .i64 n, .int .i64 life, .int .i64 id] 53) := ⟨_, rfl⟩
  have hbx : Below w.heap.size w wx := by rw [hwx]; exact (Below.refl _ _).alloc (Nat.le_refl _) _
  have k0 : Blk wx w.heap.size 53 #[.int .i64 3, .int .i64 n, .int .i64 life, .int .i64 id] := by rw [hwx]; exact Blk.new w 53 _
  have hx := h.calm hbx
  have q0 := k0.cell 0
  have q1 := k0.cell 1
  have q2 := k0.cell 2
  have q3 := k0.cell 3
  have c0 := hx.c0
  have c1 := hx.c1
  have q0a := q0
  have q1a := q1
  have q2a := q2
  have q3a := q3
  have c0a := c0
  have c1a := c1
  rw [hwx] at q0a q1a q2a q3a c0a c1a
  have hf0 := hs.free0
  have hu0 := hs.used0
  have hall := hs.all
  have hhb := heldR_bound hs.rows
  obtain ⟨hh0, _⟩ := hhb
  have hh1 : heldR r.rows ≤ 1048576 := by omega
  have hf1 : r.free ≤ 1048576 := by omega
  have hu1 : r.used ≤ 1048576 := by omega
  have hlen := hs.len
  have HX := hide hx
  have HBX := hide hbx
  have HWX := hide hwx
  have HS := hide hs
  have HK0 := hide k0
  have HLT := hide h.lt
  clear hx h hbx hs k0 hwx hall
  have HF := hide (show r.order ⟨3, n, life, id⟩ = (⟨r.free - n, r.used, r.rows ++ [(n, life)]⟩, ((r.rows.length + 1 : Nat) : Int), 0) by
    unfold Rk.order
    rw [rcounted_yes hc1 hc2]
    simp [asksCount, show ¬ (life < 1 ∨ 20 < life) by omega, show ¬ 4 ≤ opensR r.rows by omega, show ¬ r.free < n by omega])
  have HOP := hide (rackOpens_any base g o cs r vc vl wx K (unhide HX) (unhide HS) (by omega))
  have l1 : decide (life < 1) = false := decide_eq_false (by omega)
  have l2 : decide (20 < life) = false := decide_eq_false (by omega)
  obtain ⟨m, hm⟩ : ∃ m, m = opensR r.rows := ⟨_, rfl⟩
  rw [← hm] at HOP hf
  clear hm
  have hf' : (m : Int) < 4 := by omega
  have hd1 : decide (n < 1) = false := decide_eq_false (by omega)
  have hd2 : decide (1048576 < n) = false := decide_eq_false (by omega)
  go_enter Try.func24, Try.ntmps24
  go_wp2_with fail
  rw [← unhide HWX]
  refine (unhide HOP).mono ?_
  rintro _ _ ⟨rfl, rfl⟩
  go_wp2_with fail
  go_quiet (fail)
  go_wp2_with fail
  clear q0a q1a q2a q3a c0a c1a
  have f0 : wx.frozen? ⟨g, o, none⟩ = false := (unhide HX).fr o
  refine wp_region_draw_tail 9 (by kernel_rfl) (by kernel_rfl) ?_
  simp only [List.take_succ_cons, List.take_zero, List.drop_succ_cons, List.drop_zero]
  repeat (go_big_quiet_step (fail))
  refine wpQuiet_nil ?_
  rintro _ ⟨nq2, rfl⟩
  go_wp2_with fail
  obtain ⟨w2, hw2⟩ : ∃ w2, w2 = ((wx.drewN nq).drewN nq2).setCell ⟨g, o, none⟩ (.int .i64 (r.free - n)) := ⟨_, rfl⟩
  have hx2 := RkAt.free_ ((unhide HX).calm (below_drewN (below_drewN (Below.refl _ _) nq) nq2)) (r.free - n)
  rw [← hw2] at hx2
  have hO2 : Only (fun k => k = g) wx w2 := by rw [hw2]; exact only_put (((Only.refl _ wx).drewN nq).drewN nq2) _ _
  have k2 := (unhide HK0).only hO2 (fun e => by have := unhide HLT g (.inl rfl); omega)
  obtain ⟨A2, cA2, hvc, _, _⟩ := hx2.cnt
  obtain ⟨A3, cA3, hvl, _, _⟩ := hx2.lft
  dsimp only at hvc hvl
  subst hvc hvl
  obtain ⟨len, hlen2⟩ : ∃ len, len = r.rows.length := ⟨_, rfl⟩
  have HLEN := hide hlen2
  have hraw := hx2.raw
  have p1 := fun n : Ext w2 => n.cell (k2.cell 1)
  have p2 := k2.cell 2
  have d2 := hx2.c2
  rw [← hlen2] at d2 hlen
  have dd2 := fun n : Ext w2 => n.cell d2
  have HRW := hide hraw
  have HO2 := hide hO2
  have HK2 := hide k2
  first | rw [← hw2] | (rw [World.drewN_drewN] at hw2; rw [← hw2])
  obtain ⟨i0, hi, hz0, hz1, hz2⟩ := int_info1
  have hMb : (len + 1) * 8 ≤ 140737488355328 := by omega
  have hB4 : base ≤ w2.heap.size := Nat.le_trans hB (Nat.le_trans (unhide HBX).size hO2.size)
  have HLC := hide (show (r.rows.map cntV).length = len by rw [List.length_map, hlen2])
  have HLL := hide (show (r.rows.map lftV).length = len by rw [List.length_map, hlen2])
  clear hx2 hO2 k2 hw2 c0 c1 q0 q1 q2 q3 f0 d2 hraw hlen2 p2
  refine wp_region_calm_full [0] [1, 2, 3, 4, 5, 6] [] [7] 8 [9, 10, 11] (by kernel_rfl) (by kernel_rfl) (by intro c a d v w h; cases d <;> exact h) ?_
  simp only [pickOps, List.map_cons, List.map_nil, List.getD_cons_zero, List.getD_cons_succ]
  repeat (go_big_quiet_step (fail))
  refine wpQuiet_nil ?_
  repeat (go_big_quiet_step (fail))
  refine wpQuiet_nil (wpQuiet_nil ?_)
  rintro _ ⟨nq4, rfl⟩
  simp only [wpAl]
  go_wp2_with fail
  refine ⟨⟨⟨_, nq4.h.alloc nq4.h.size _⟩, rfl⟩, ?_⟩
  have HY4 := hide (RkRaw.calm (unhide HRW) nq4.h)
  have hy4 := nq4.h.size
  go_wp2_with (first
    | (at_builtin; (refine wpList_append_new _ rfl (.tmp 209) (.tmp 212) _ rfl base 3 i0 _ 1 8 Try.underlying43 hi hz0 hz1 hz2 rfl (by omega) (by omega) _ _ _ (unhide HY4).oc (by rw [← unhide HLEN]; rfl) _ 1 _ rfl rfl rfl (by simp [Value.oneCell']) (by rw [unhide HLC]; exact hMb) (Nat.le_trans hB4 hy4) ?_); rw [unhide HLC]; intro g4 cap4 w4 hg4 hown4 hbel4 hgr4 hat4; have hM4 := Blk.grown (unhide HY4).blk hgr4 (Ne.symm (unhide HY4).nc); have hu4 := hM4.at_ (unhide HY4).has 2 rfl; have hv4 := hM4.at_ (unhide HY4).has 2 rfl; have fu4 := hM4.frozen (o + 2); have HK4 := hide (And.intro hg4 (And.intro hown4 (And.intro hgr4 hat4))); clear hg4 hown4 hbel4 hgr4 hat4 hM4))
  obtain ⟨hg4, hown4, hgr4, hat4⟩ := unhide HK4
  have hr5 := RkRaw.pushC (unhide HY4) hgr4 hat4 (by rw [unhide HLC]; exact hown4)
  rw [unhide HLC] at hr5
  obtain ⟨w5, hw5⟩ : ∃ w5, w5 = w4.setCell ⟨g, o + 2, none⟩ (.slice (some ⟨g4, 0, none⟩) (len + 1) cap4) := ⟨_, rfl⟩
  rw [← hw5] at hr5 ⊢
  have hO5 : Only (RkD g (.slice A2 r.rows.length cA2) (.slice A3 r.rows.length cA3)) w2 w5 := by
    rw [hw5]
    exact Only.setCell (((Only.refl _ w2).calm nq4.h).grown hgr4 (fun x hx _ => .inr (.inl hx))) (fun _ => .inl rfl) _
  have k5 := ((unhide HK2).below nq4.h (unhide HK2).lt).grown hgr4 (by
    intro e
    have h1 := unhide HLT w.heap.size (.inr (.inl e.symm))
    omega)
  have k6 : Blk w5 w.heap.size 53 #[.int .i64 3, .int .i64 n, .int .i64 life, .int .i64 id] := by rw [hw5]; exact k5.far (p := ⟨g, o + 2, none⟩) (fun e => by have h1 := unhide HLT g (.inl rfl); have e' : w.heap.size = g := e; omega) _
  have e3 := hr5.blk.at_ hr5.has 3 rfl
  rw [← unhide HLEN] at e3
  have p5 := k6.cell 2
  have HR5 := hide hr5
  have HO5 := hide hO5
  have ee3 := fun n : Ext w5 => n.cell e3
  have pp5 := fun n : Ext w5 => n.cell p5
  have hB6 : base ≤ w5.heap.size := Nat.le_trans hB4 hO5.size
  clear hg4 hown4 hgr4 hat4 hr5 hO5 k5 k6 e3 p5 hw5 hu4 hv4 fu4 dd2 p1
  refine wp_region_calm_full [0] [1, 2, 3, 4, 5, 6] [] [7] 8 [9, 10, 11] (by kernel_rfl) (by kernel_rfl) (by intro c a d v w h; cases d <;> exact h) ?_
  simp only [pickOps, List.map_cons, List.map_nil, List.getD_cons_zero, List.getD_cons_succ]
  repeat (go_big_quiet_step (fail))
  refine wpQuiet_nil ?_
  repeat (go_big_quiet_step (fail))
  refine wpQuiet_nil (wpQuiet_nil ?_)
  rintro _ ⟨nq6, rfl⟩
  simp only [wpAl]
  go_wp2_with fail
  refine ⟨⟨⟨_, nq6.h.alloc nq6.h.size _⟩, rfl⟩, ?_⟩
  have HY6 := hide (RkRaw.calm (unhide HR5) nq6.h)
  have hy6 := nq6.h.size
  go_wp2_with (first
    | (at_builtin; (refine wpList_append_new _ rfl (.tmp 220) (.tmp 223) _ rfl base 3 i0 _ 1 8 Try.underlying43 hi hz0 hz1 hz2 rfl (by omega) (by omega) _ _ _ (unhide HY6).ol (by rw [← unhide HLEN]; rfl) _ 1 _ rfl rfl rfl (by simp [Value.oneCell']) (by rw [unhide HLL]; exact hMb) (Nat.le_trans hB6 hy6) ?_); rw [unhide HLL]; intro g6 cap6 w6 hg6 hown6 hbel6 hgr6 hat6; have hM6 := Blk.grown (unhide HY6).blk hgr6 (Ne.symm (unhide HY6).nl); have hu6 := hM6.at_ (unhide HY6).has 3 rfl; have hv6 := hM6.at_ (unhide HY6).has 2 rfl; have fu6 := hM6.frozen (o + 3); have HK6 := hide (And.intro hg6 (And.intro hown6 (And.intro hgr6 hat6))); clear hg6 hown6 hbel6 hgr6 hat6 hM6))
  obtain ⟨hg6, hown6, hgr6, hat6⟩ := unhide HK6
  have hr7 := RkRaw.pushL (unhide HY6) hgr6 hat6 (by rw [unhide HLL]; exact hown6)
  rw [unhide HLL, putAt_put _ _ _ _ (by simp), putAt_put _ _ _ _ (by simp [Rk.cells])] at hr7
  go_ret2
  rw [unhide HF]
  refine ⟨.slice (some ⟨g4, 0, none⟩) (len + 1) cap4, .slice (some ⟨g6, 0, none⟩) (len + 1) cap6, by rw [← unhide HLEN]; rfl, RkRaw.at (by simpa [cntV, lftV, Rk.cells] using hr7), ?_, fun k hk => ?_⟩
  · have h1 : Only (RkD g (.slice A2 r.rows.length cA2) (.slice A3 r.rows.length cA3)) w wx := Only.of_below (unhide HBX) fun x hx hB => by omega
    exact Only.setCell (((((h1.trans (unhide HO2) (fun x _ h => .inl h)).trans (unhide HO5) (fun x _ h => h)).calm nq6.h).grown hgr6 (fun x hx _ => .inr (.inr hx)))) (fun _ => .inl rfl) _
  · obtain ⟨_, _, _, hat4⟩ := unhide HK4
    have z1 := (unhide HBX).size
    have z2 := (unhide HO2).size
    have z3 := nq4.h.size
    have z4 := (unhide HO5).size
    have z5 := nq6.h.size
    rcases hk with rfl | hk | hk
    · exact .inl (.inl rfl)
    · have hk' : g4 = k := by simpa [Value.ownBlock] using hk
      subst hk'
      rcases hat4 with e | e
      · exact .inl (.inr (.inl e.symm))
      · right; omega
    · have hk' : g6 = k := by simpa [Value.ownBlock] using hk
      subst hk'
      rcases hat6 with e | e
      · exact .inl (.inr (.inr e.symm))
      · right; omega
end Go.Proofs.Ytiljallignlbgaa
