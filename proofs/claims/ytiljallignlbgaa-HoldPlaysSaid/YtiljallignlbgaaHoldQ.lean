/- Contracts of a rack's Order and of HoldPlayed (the reference). Conditions: none beyond what each theorem states. -/
import Derived.Test.YtiljallignlbgaaHoldO
import Derived.Test.YtiljallignlbgaaHoldJ
namespace Go.Proofs.Ytiljallignlbgaa
open Go.RowKit
set_option linter.unusedVariables false

theorem heldR_set {l : List (Int × Int)} {j : Nat} {x : Int × Int} (hx : l[j]? = some x) : heldR (l.set j (x.1, 0)) + (if 0 < x.2 then x.1 else 0) = heldR l := by
  have hk := (List.getElem?_eq_some_iff.1 hx).1
  have e : l = l.take j ++ x :: l.drop (j + 1) := by rw [← drop_cons l j x hx, List.take_append_drop]
  have e2 : l.set j (x.1, 0) = l.take j ++ (x.1, 0) :: l.drop (j + 1) := by
    conv => lhs; rw [e]
    rw [List.set_append_right _ _ (by simp; omega), List.length_take, Nat.min_eq_left (by omega), Nat.sub_self, List.set_cons_zero]
  rw [e2, heldR_append]
  conv => rhs; rw [e, heldR_append]
  obtain ⟨c, t⟩ := x
  simp only [heldR]
  simp
  omega
theorem heldR_aged {l : List (Int × Int)} (h : ∀ x ∈ l, 0 ≤ x.1 ∧ x.1 ≤ 1048576 ∧ 0 ≤ x.2 ∧ x.2 ≤ 20) : heldR (l.map agedR) + oversR l = heldR l := by
  induction l with
  | nil => rfl
  | cons x l ih =>
    obtain ⟨c, t⟩ := x
    have h1 := h (c, t) (by simp)
    have h2 := ih (fun y hy => h y (by simp [hy]))
    dsimp only at h1
    rw [List.map_cons]
    by_cases hp : 0 < t
    · have ea : agedR (c, t) = (c, t - 1) := by simp [agedR, hp]
      rw [ea, heldR, oversR, heldR, if_pos hp]
      by_cases h3 : t = 1
      · rw [if_neg (by omega), if_pos h3]; omega
      · rw [if_pos (by omega), if_neg h3]; omega
    · have ea : agedR (c, t) = (c, t) := by simp [agedR, hp]
      rw [ea, heldR, oversR, heldR, if_neg hp, if_neg (by omega)]; omega
theorem rkOrder_ok {r : Rk} {K : Nat} (h : r.ok K) (o : Ordr) : (r.order o).1.ok (K + 1) := by
  have hK : r.ok (K + 1) := { h with len := by have := h.len; omega }
  have hh := (heldR_bound h.rows).1
  have h1 := h.free0
  have h2 := h.used0
  have h3 := h.all
  unfold Rk.order
  by_cases ck : o.kind < 1 ∨ 7 < o.kind
  · rw [if_pos ck]; exact hK
  rw [if_neg ck]
  by_cases c0 : (asksCount o.kind && !countedB o) = true
  · rw [if_pos c0]; exact hK
  rw [if_neg c0]
  have hc : asksCount o.kind = true → 1 ≤ o.count ∧ o.count ≤ 1048576 := fun ha => by
    cases hb : countedB o with
    | true => simpa [countedB] using hb
    | false => rw [ha, hb] at c0; simp at c0
  by_cases c1 : o.kind = 1
  · rw [if_pos c1]
    have := hc (by rw [c1]; rfl)
    split
    · exact hK
    · exact { hK with free0 := by dsimp only; omega, all := by dsimp only; omega }
  rw [if_neg c1]
  by_cases c2 : o.kind = 2
  · rw [if_pos c2]
    have := hc (by rw [c2]; rfl)
    split
    · exact hK
    · exact { hK with free0 := by dsimp only; omega, used0 := by dsimp only; omega, all := by dsimp only; omega }
  rw [if_neg c2]
  by_cases c6 : o.kind = 6
  · rw [if_pos c6]
    have := hc (by rw [c6]; rfl)
    split
    · exact hK
    · exact { hK with free0 := by dsimp only; omega, used0 := by dsimp only; omega, all := by dsimp only; omega }
  rw [if_neg c6]
  by_cases c3 : o.kind = 3
  · rw [if_pos c3]
    have hcn := hc (by rw [c3]; rfl)
    split
    · exact hK
    · rename_i hl
      split
      · exact hK
      · split
        · exact hK
        · refine ⟨by dsimp only; omega, h2, ?_, ?_, by have := h.len; dsimp only; simp; omega⟩
          · dsimp only; rw [heldR_append]; simp only [heldR]; rw [if_pos (by omega)]; omega
          · intro x hx
            rcases List.mem_append.1 hx with hx | hx
            · exact h.rows x hx
            · rw [List.mem_singleton] at hx; subst hx; dsimp only; omega
  rw [if_neg c3]
  by_cases c45 : o.kind = 4 ∨ o.kind = 5
  · rw [if_pos c45]
    split
    · exact hK
    · cases hx : r.rows[o.id.toNat - 1]? with
      | none => exact hK
      | some x =>
        dsimp only
        split
        · exact hK
        · rename_i hz
          have hxb := h.rows x (List.mem_of_getElem? hx)
          have hs := heldR_set hx
          rw [if_pos (by omega)] at hs
          refine ⟨?_, ?_, ?_, ?_, by have := h.len; dsimp only; simp; omega⟩
          · dsimp only; split <;> omega
          · dsimp only; split <;> omega
          · dsimp only; split <;> omega
          · intro y hy
            rcases List.mem_or_eq_of_mem_set hy with hy | rfl
            · exact h.rows y hy
            · dsimp only; omega
  rw [if_neg c45]
  have ha := heldR_aged h.rows
  have hb := oversR_le h.rows
  refine ⟨by dsimp only; omega, h2, by dsimp only; omega, ?_, by have := h.len; dsimp only; simp; omega⟩
  intro x hx
  obtain ⟨y, hy, rfl⟩ := List.mem_map.1 hx
  have := h.rows y hy
  unfold agedR
  dsimp only
  split <;> omega

theorem rackOrdered_any (base g o : Nat) (cs : Array Value) (r : Rk) (vc vl : Value) (w : World) (od : Ordr) (K : Nat) (h : RkAt w base g o cs r vc vl) (hs : r.ok K) (hK : K ≤ 1000000 - 1) (hB : base ≤ w.heap.size) :
    Calls Try.prog 24 #[.pointer (some ⟨g, o, none⟩), od.val] w (RkPost base g o cs vc vl w (r.order od)) := by
  obtain ⟨k, n, life, id⟩ := od
  by_cases hk : k < 1 ∨ 7 < k
  · exact rack_kind base g o cs r vc vl w k n life id K h hs hK hB hk
  have hk' : k = 1 ∨ k = 2 ∨ k = 3 ∨ k = 4 ∨ k = 5 ∨ k = 6 ∨ k = 7 := by omega
  have hshut : ∀ (P : Int → Prop), P k → (k = 4 ∨ k = 5) → P k := fun _ h _ => h
  by_cases h45 : k = 4 ∨ k = 5
  · by_cases hid : id < 1 ∨ (r.rows.length : Int) < id
    · rcases h45 with rfl | rfl
      · exact rack4_none base g o cs r vc vl w n life id K h hs hK hB hid
      · exact rack5_none base g o cs r vc vl w n life id K h hs hK hB hid
    · obtain ⟨j, rfl⟩ : ∃ j : Nat, id = (j : Int) + 1 := ⟨(id - 1).toNat, by omega⟩
      obtain ⟨x, hx⟩ : ∃ x, r.rows[j]? = some x := ⟨_, List.getElem?_eq_getElem (by omega)⟩
      have hx0 := hs.rows x (List.mem_of_getElem? hx)
      by_cases hz : x.2 = 0
      · rcases h45 with rfl | rfl
        · exact rack4_old base g o cs r vc vl w n life j x K h hs hK hB hx hz
        · exact rack5_old base g o cs r vc vl w n life j x K h hs hK hB hx hz
      · rcases h45 with rfl | rfl
        · exact rack4_ok base g o cs r vc vl w n life j x K h hs hK hB hx (by omega)
        · exact rack5_ok base g o cs r vc vl w n life j x K h hs hK hB hx (by omega)
  by_cases h7 : k = 7
  · subst h7; exact rack7 base g o cs r vc vl w n life id K h hs hK hB
  have hk2 : k = 1 ∨ k = 2 ∨ k = 3 ∨ k = 6 := by omega
  by_cases hn : n < 1 ∨ 1048576 < n
  · rcases hk2 with rfl | rfl | rfl | rfl
    · exact rack1_bad base g o cs r vc vl w n life id K h hs hK hB hn
    · exact rack2_bad base g o cs r vc vl w n life id K h hs hK hB hn
    · exact rack3_bad base g o cs r vc vl w n life id K h hs hK hB hn
    · exact rack6_bad base g o cs r vc vl w n life id K h hs hK hB hn
  have h1 : 1 ≤ n := by omega
  have h2 : n ≤ 1048576 := by omega
  rcases hk2 with rfl | rfl | rfl | rfl
  · by_cases hov : 1048576 < r.free + heldR r.rows + r.used + n
    · exact rack1_over base g o cs r vc vl w n life id K h hs hK hB h1 h2 hov
    · exact rack1_ok base g o cs r vc vl w n life id K h hs hK hB h1 h2 (by omega)
  · by_cases hls : r.free < n
    · exact rack2_less base g o cs r vc vl w n life id K h hs hK hB h1 h2 hls
    · exact rack2_ok base g o cs r vc vl w n life id K h hs hK hB h1 h2 (by omega)
  · by_cases hl : life < 1 ∨ 20 < life
    · exact rack3_life base g o cs r vc vl w n life id K h hs hK hB h1 h2 hl
    by_cases hf : 4 ≤ opensR r.rows
    · exact rack3_full base g o cs r vc vl w n life id K h hs hK hB h1 h2 (by omega) (by omega) hf
    by_cases hls : r.free < n
    · exact rack3_less base g o cs r vc vl w n life id K h hs hK hB h1 h2 (by omega) (by omega) (by omega) hls
    · exact rack3_ok base g o cs r vc vl w n life id K h hs hK hB h1 h2 (by omega) (by omega) (by omega) (by omega)
  · by_cases hls : r.used < n
    · exact rack6_less base g o cs r vc vl w n life id K h hs hK hB h1 h2 hls
    · exact rack6_ok base g o cs r vc vl w n life id K h hs hK hB h1 h2 (by omega)

def RkDoPost (base g o : Nat) (cs : Array Value) (vc vl : Value) (w : World) (r : Rk × Stk) (e : Ending) (w' : World) : Prop :=
  ∃ vc' vl', e = .returned r.2.val ∧ RkAt w' base g o (putAt cs o (r.1.cells vc' vl')) r.1 vc' vl' ∧ Only (RkD g vc vl) w w' ∧ ∀ k, RkD g vc' vl' k → RkD g vc vl k ∨ w.heap.size ≤ k

set_option maxRecDepth 100000 in
set_option maxHeartbeats 2000000 in
theorem rackOrder_any (base g o : Nat) (cs : Array Value) (r : Rk) (vc vl : Value) (w : World) (od : Ordr) (K : Nat) (h : RkAt w base g o cs r vc vl) (hs : r.ok K) (hK : K ≤ 1000000 - 1) (hB : base ≤ w.heap.size) :
    Calls Try.prog 15 #[.pointer (some ⟨g, o, none⟩), od.val] w (RkDoPost base g o cs vc vl w (r.does od)) := by
  obtain ⟨wx, hwx⟩ : ∃ wx, wx = (w.alloc (.cells od.cells.toArray 53)).alloc (.cells #[.int .i64 0, .int .i64 0, .int .i64 0, .int .i64 0, .int .i64 0] 28) := ⟨_, rfl⟩
  have hbx : Below w.heap.size w wx := by rw [hwx]; exact ((Below.refl _ _).alloc (Nat.le_refl _) _).alloc (by simp) _
  have k0 : Blk wx w.heap.size 53 od.cells.toArray := by rw [hwx]; exact (Blk.new w 53 _).alloc _
  have k1 : Blk wx (w.heap.size + 1) 28 #[.int .i64 0, .int .i64 0, .int .i64 0, .int .i64 0, .int .i64 0] := by
    have h := Blk.new (w.alloc (.cells od.cells.toArray 53)) 28 #[.int .i64 0, .int .i64 0, .int .i64 0, .int .i64 0, .int .i64 0]
    rw [hwx]
    simpa using h
  have hx := h.calm hbx
  have HO := hide (rackOrdered_any base g o cs r vc vl wx od K hx hs hK (Nat.le_trans hB hbx.size))
  have HLT := hide h.lt
  have hs2 := rkOrder_ok hs od
  have HDO := hide (show r.does od = ((r.order od).1, (r.order od).1.stock (r.order od).2.1 (r.order od).2.2) from rfl)
  obtain ⟨t, ht⟩ : ∃ t, t = r.order od := ⟨_, rfl⟩
  rw [← ht] at HO hs2 HDO
  obtain ⟨r2, rid, rc⟩ := t
  dsimp only at hs2 HDO
  have HS2 := hide hs2
  have HK1 := hide k1
  have HBX := hide hbx
  obtain ⟨ok, on, ol, oi⟩ := od
  unfold Ordr.val at HO ⊢
  dsimp only at HO ⊢
  unfold Ordr.cells at k0 hwx
  dsimp only at k0 hwx
  have q0 := k0.cell 0
  have q1 := k0.cell 1
  have q2 := k0.cell 2
  have q3 := k0.cell 3
  rw [hwx] at q0 q1 q2 q3
  have HWX := hide hwx
  clear hx h hbx hs k0 k1 hwx hs2 ht
  go_enter Try.func15, Try.ntmps15
  go_wp2_with fail
  rw [← unhide HWX]
  clear q0 q1 q2 q3
  refine (unhide HO).mono ?_
  rintro _ w2 ⟨vc2, vl2, rfl, hx2, ho2, ha2⟩
  have hn1 : ∀ k, w.heap.size ≤ k → ¬ RkD g vc vl k := fun k hk hc => by have := unhide HLT k hc; omega
  have k2 := (unhide HK1).only ho2 (hn1 _ (by omega))
  have c0 := fun n : Ext w2 => n.cell hx2.c0
  have c1 := fun n : Ext w2 => n.cell hx2.c1
  have HST := hide (fun W (hW : Below w2.heap.size w2 W) => (rackHeld_any base g o _ r2 vc2 vl2 W (K + 1) (hx2.calm hW) (unhide HS2) (by omega)).mono (fun e w' (h : e = .returned (.int .i64 (heldR r2.rows)) ∧ W = w') => And.intro h.1 (show Below W.heap.size W w' by rw [← h.2]; exact Below.refl _ _)))
  have HX2 := hide hx2
  have HO2 := hide ho2
  have HA2 := hide ha2
  have HK2 := hide k2
  clear hx2 ho2 ha2 k2 hn1
  go_wp2_with fail
  refine wp_region_calm_tail 13 (by kernel_rfl) (by kernel_rfl) ?_
  simp only [List.take_succ_cons, List.take_zero, List.drop_succ_cons, List.drop_zero]
  repeat (go_big_quiet_step ((go_at_call 25; exact calm_call (unhide HST _ (Ext.h _)))))
  refine wpQuiet_nil ?_
  rintro _ ⟨nq, rfl⟩
  have k3 := (unhide HK2).below nq.h (unhide HK2).lt
  have d0 := k3.cell 0
  have d1 := k3.cell 1
  have d2 := k3.cell 2
  have d3 := k3.cell 3
  have d4 := k3.cell 4
  have f0 := k3.frozen 0
  have f1 := k3.frozen 1
  have f2 := k3.frozen 2
  have f3 := k3.frozen 3
  have f4 := k3.frozen 4
  have hlt3 := k3.lt
  have HK3 := hide k3
  have key : ∀ WF, Only (fun k => k = w.heap.size + 1) nq.W WF → RkDoPost base g o cs vc vl w (r.does ⟨ok, on, ol, oi⟩) (.returned (r2.stock rid rc).val) WF := by
    intro WF hF
    rw [unhide HDO]
    have hx3 := (unhide HX2).calm nq.h
    have hsx : wx.heap.size = w.heap.size + 2 := by rw [unhide HWX]; simp
    refine ⟨vc2, vl2, rfl, hx3.only hF (fun k hk e => ?_), ?_, fun k hk => ?_⟩
    · rcases unhide HA2 k hk with h1 | h1
      · have := unhide HLT k h1; omega
      · omega
    · have h1 : Only (RkD g vc vl) w wx := Only.of_below (unhide HBX) fun x hx hB => by omega
      exact ((h1.trans (unhide HO2) (fun x _ h => h)).calm nq.h).trans hF (fun x hx h => by omega)
    · rcases unhide HA2 k hk with h1 | h1
      · exact .inl h1
      · exact .inr (by omega)
  have KEY := hide key
  clear k3 key c0 c1
  go_wp2_with fail
  obtain ⟨w5, hw5⟩ : ∃ w5, w5 = ((((nq.W.setCell ⟨w.heap.size + 1, 0, none⟩ (.int .i64 rc)).setCell ⟨w.heap.size + 1, 1, none⟩ (.int .i64 rid)).setCell ⟨w.heap.size + 1, 2, none⟩ (.int .i64 r2.free)).setCell ⟨w.heap.size + 1, 3, none⟩ (.int .i64 (heldR r2.rows))).setCell ⟨w.heap.size + 1, 4, none⟩ (.int .i64 r2.used) := ⟨_, rfl⟩
  have hO5 : Only (fun k => k = w.heap.size + 1) nq.W w5 := by rw [hw5]; exact only_put (only_put (only_put (only_put (only_put (Only.refl _ _) _ _) _ _) _ _) _ _) _ _
  have k5 : Blk w5 (w.heap.size + 1) 28 #[.int .i64 rc, .int .i64 rid, .int .i64 r2.free, .int .i64 (heldR r2.rows), .int .i64 r2.used] := by
    rw [hw5]
    exact (((((unhide HK3).set_ 0 _).set_ 1 _).set_ 2 _).set_ 3 _).set_ 4 _
  rw [← hw5]
  have z0 := k5.cell 0
  have z1 := k5.cell 1
  have z2 := k5.cell 2
  have z3 := k5.cell 3
  have z4 := k5.cell 4
  have HO5 := hide hO5
  clear hO5 k5 hw5 d0 d1 d2 d3 d4 f0 f1 f2 f3 f4
  refine bodyPost_ret (v := (r2.stock rid rc).val) (by simp [results, Try.results15, go_sem, z0, z1, z2, z3, z4]; rfl) rfl (unhide KEY _ (unhide HO5))
end Go.Proofs.Ytiljallignlbgaa
