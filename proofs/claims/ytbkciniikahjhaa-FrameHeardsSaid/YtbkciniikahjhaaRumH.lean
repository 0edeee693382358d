/- The reference's FrameRumour. Conditions: none beyond what each theorem states. -/
import Derived.Test.YtbkciniikahjhaaRumG
import Derived.Test.YtbkciniikahjhaaRegC
import Derived.Test.YtbkciniikahjhaaFrameC
namespace Go.Proofs.Ytbkciniikahjhaa
open Go.RowKit
set_option linter.unusedVariables false

theorem bothGo_snoc (a b : Nat) : ∀ (ls : List Int) (z : Int) (i : Nat), bothGo a b (ls ++ [z]) i = bothGo a b ls i ++ (if z.toNat.testBit a && z.toNat.testBit b then [i + ls.length] else [])
  | [], z, i => by
    unfold bothGo
    simp [bothGo]
  | y :: ls, z, i => by
    rw [List.cons_append, bothGo, bothGo_snoc a b ls z (i + 1), bothGo]
    have e : i + 1 + ls.length = i + (y :: ls).length := by simp; omega
    rw [e]
    split <;> simp
theorem bothGo_append (a b : Nat) : ∀ (x y : List Int) (i : Nat), bothGo a b (x ++ y) i = bothGo a b x i ++ bothGo a b y (i + x.length)
  | [], y, i => by simp [bothGo]
  | z :: x, y, i => by
    rw [List.cons_append, bothGo, bothGo_append a b x y (i + 1), bothGo]
    have e : i + 1 + x.length = i + (z :: x).length := by simp; omega
    rw [e]
    split <;> simp
theorem refRead_any (v j : Nat) (w : World) (hv : v ≤ 255) (hj : j ≤ 62) : Calls Try.prog 43 #[.int .i64 v, .int .i64 j] w fun e w' => e = .returned (.bool (v.testBit j)) ∧ w = w' := by
  have hbit := bit_i64 v j hv
  have HV := hide hv
  clear hv
  go_enter Try.func43, Try.ntmps43
  go_wp2_with fail
  go_ret
  exact ⟨rfl, rfl⟩
theorem allBits_append (x y : List (Int × Int)) : allBits (x ++ y) = allBits x ++ allBits y := by unfold allBits; rw [List.flatMap_append]
theorem allBits_one (f : Int × Int) : allBits [f] = fieldBits f := by unfold allBits; simp
theorem slots_bits {l : List Ent} (h : ∀ e ∈ l, SlotOk e) (x : Nat) (hx : x < 8) : allBits ((slotsOf l).take (x + 1)) = allBits ((slotsOf l).take x) ++ allBits (slotFs l x) := by
  rw [take_snoc (slotsOf l) x _ (slotsOf_get l x hx), allBits_append, allBits_one, slotV_bits h]
set_option maxRecDepth 100000 in
set_option maxHeartbeats 4000000 in
theorem refRumour_early (c : Cfg) (a b : Int) (t : TabR) (B : Nat) (w : World) (hc : c.ok w B) (ht : TabOk w B t) (hB : B ≤ w.heap.size) (hbad : ¬ (configP c = true ∧ (brOk c a = true ∧ brOk c b = true) ∧ t.es.length = c.la.zs.length)) :
    Calls Try.prog 18 #[c.val, .int .i64 a, .int .i64 b, t.val] w (RumPost (rumourP c a b t.es) w) := by
  have hfin : ∀ (x : Int) W, Below w.heap.size w W → rumourP c a b t.es = ([], x) → RumPost (rumourP c a b t.es) w (.returned (.tuple #[.slice none 0 0, .int .i64 x])) W := fun x W hW hp => by
    rw [hp]
    exact ⟨_, rfl, World.ownsRow_nil _ _ _ _, hW⟩
  have HFIN := hide hfin
  have HMY := hide (fun W (hW : Below w.heap.size w W) => configMay_any c B W (hc.below (hW.mono hB)) (Nat.le_trans hB hW.size))
  have hll := hc.1.1
  have hlm := hc.1.2.2.1
  have htl : t.es.length = t.rs.length := by unfold TabR.es; rw [List.length_map]
  have hbnd := ht.len
  unfold maxLen at hbnd hlm
  have hP1 : configP c = false → rumourP c a b t.es = ([], 4) := fun h => by unfold rumourP; rw [if_pos h]
  have hP2 : configP c = true → (brOk c a = false ∨ brOk c b = false) → rumourP c a b t.es = ([], 2) := fun h h2 => by unfold rumourP; rw [if_neg (by rw [h]; simp), if_pos h2]
  have hP3 : configP c = true → (brOk c a = true ∧ brOk c b = true) → t.es.length ≠ c.la.zs.length → rumourP c a b t.es = ([], 1) := fun h h2 h3 => by unfold rumourP; rw [if_neg (by rw [h]; simp), if_neg (by rw [h2.1, h2.2]; simp), if_pos h3]
  generalize rumourP c a b t.es = R at *
  have HP1 := hide hP1
  have HP2 := hide hP2
  have HP3 := hide hP3
  have HBA := hide hbad
  have HTL := hide htl
  obtain ⟨w1, hw1⟩ : ∃ w1, w1 = w.alloc (.cells c.cells.toArray 24) := ⟨_, rfl⟩
  have hb1 : Below w.heap.size w w1 := by rw [hw1]; exact (Below.refl _ _).alloc (Nat.le_refl _) _
  obtain ⟨p, hp⟩ : ∃ p, p = w.heap.size := ⟨_, rfl⟩
  have kb : Blk w1 p 24 c.cells.toArray := by rw [hw1, hp]; exact Blk.new w _ _
  have HB1 := hide hb1
  have HW1 := hide hw1
  have HP := hide hp
  have k0 := fun (W : World) (hz : Below w1.heap.size w1 W) => (kb.below hz kb.lt).cell 0
  have k1 := fun (W : World) (hz : Below w1.heap.size w1 W) => (kb.below hz kb.lt).cell 1
  have k2 := fun (W : World) (hz : Below w1.heap.size w1 W) => (kb.below hz kb.lt).cell 2
  have k3 := fun (W : World) (hz : Below w1.heap.size w1 W) => (kb.below hz kb.lt).cell 3
  have k4 := fun (W : World) (hz : Below w1.heap.size w1 W) => (kb.below hz kb.lt).cell 4
  have hz1 : Below w1.heap.size w1 w1 := Below.refl _ _
  clear hb1 kb hp hw1 hc ht hfin hP1 hP2 hP3 hbad htl
  obtain ⟨rs, tA, tc⟩ := t
  obtain ⟨br, ⟨lA, ln, lc, ls⟩, tk, ⟨mA, mn, mc, ms⟩, cap⟩ := c
  unfold Cfg.cells at HW1 k0 k1 k2 k3 k4
  unfold Cfg.val at HMY ⊢
  unfold TabR.val
  unfold brOk at HP2 HP3 HBA
  dsimp only at HMY HW1 HTL HP2 HP3 HBA k0 k1 k2 k3 k4 hll hlm hbnd ⊢
  simp only [List.getElem?_toArray, List.getElem?_cons_zero, List.getElem?_cons_succ] at k0 k1 k2 k3 k4
  have HLL := hide hll
  clear hll
  cases hcf : configP ⟨br, ⟨lA, ln, lc, ls⟩, tk, ⟨mA, mn, mc, ms⟩, cap⟩
  · rw [hcf] at HMY HP1
    clear hcf
    go_enter Try.func18, Try.ntmps18
    go_upto_region 1 with fail
    rw [← unhide HP, ← unhide HW1]
    go_wp2_with fail
    refine (unhide HMY w1 (unhide HB1)).mono ?_
    rintro _ w2 ⟨rfl, hb2⟩
    have HB2 := hide ((unhide HB1).trans (hb2.mono (unhide HB1).size))
    clear hb2
    go_wp2_with fail
    go_ret2
    exact unhide HFIN _ _ (unhide HB2) (unhide HP1 trivial)
  rw [hcf] at HMY HP2 HP3
  have HBA2 := hide (fun h => unhide HBA ⟨hcf, h⟩)
  clear hcf HBA
  by_cases d1 : a < 0
  · have HPX := hide (unhide HP2 rfl (Or.inl (by simp; omega)))
    clear HP2 HP3 HBA2
    go_enter Try.func18, Try.ntmps18
    go_upto_region 1 with fail
    rw [← unhide HP, ← unhide HW1]
    go_wp2_with fail
    refine (unhide HMY w1 (unhide HB1)).mono ?_
    rintro _ w2 ⟨rfl, hb2⟩
    have hz2 : Below w1.heap.size w1 w2 := hb2
    have HB2 := hide ((unhide HB1).trans (hb2.mono (unhide HB1).size))
    clear hb2
    go_wp2_with fail
    go_ret2
    exact unhide HFIN _ _ (unhide HB2) (unhide HPX)
  by_cases d2 : br ≤ a
  · have HPX := hide (unhide HP2 rfl (Or.inl (by simp; omega)))
    clear HP2 HP3 HBA2
    go_enter Try.func18, Try.ntmps18
    go_upto_region 1 with fail
    rw [← unhide HP, ← unhide HW1]
    go_wp2_with fail
    refine (unhide HMY w1 (unhide HB1)).mono ?_
    rintro _ w2 ⟨rfl, hb2⟩
    have hz2 : Below w1.heap.size w1 w2 := hb2
    have HB2 := hide ((unhide HB1).trans (hb2.mono (unhide HB1).size))
    clear hb2
    go_wp2_with fail
    go_ret2
    exact unhide HFIN _ _ (unhide HB2) (unhide HPX)
  by_cases d3 : b < 0
  · have HPX := hide (unhide HP2 rfl (Or.inr (by simp; omega)))
    clear HP2 HP3 HBA2
    go_enter Try.func18, Try.ntmps18
    go_upto_region 1 with fail
    rw [← unhide HP, ← unhide HW1]
    go_wp2_with fail
    refine (unhide HMY w1 (unhide HB1)).mono ?_
    rintro _ w2 ⟨rfl, hb2⟩
    have hz2 : Below w1.heap.size w1 w2 := hb2
    have HB2 := hide ((unhide HB1).trans (hb2.mono (unhide HB1).size))
    clear hb2
    go_wp2_with fail
    go_ret2
    exact unhide HFIN _ _ (unhide HB2) (unhide HPX)
  by_cases d4 : br ≤ b
  · have HPX := hide (unhide HP2 rfl (Or.inr (by simp; omega)))
    clear HP2 HP3 HBA2
    go_enter Try.func18, Try.ntmps18
    go_upto_region 1 with fail
    rw [← unhide HP, ← unhide HW1]
    go_wp2_with fail
    refine (unhide HMY w1 (unhide HB1)).mono ?_
    rintro _ w2 ⟨rfl, hb2⟩
    have hz2 : Below w1.heap.size w1 w2 := hb2
    have HB2 := hide ((unhide HB1).trans (hb2.mono (unhide HB1).size))
    clear hb2
    go_wp2_with fail
    go_ret2
    exact unhide HFIN _ _ (unhide HB2) (unhide HPX)
  have hab : ((decide (0 ≤ a) && decide (a < br)) = true ∧ (decide (0 ≤ b) && decide (b < br)) = true) := by simp; omega
  have hn : ¬ rs.length = ln := fun h => unhide HBA2 ⟨hab, by rw [unhide HTL, unhide HLL]; exact h⟩
  have HPX := hide (unhide HP3 rfl hab (by rw [unhide HTL, unhide HLL]; exact hn))
  have e2 : (rs.length != ln) = true := by simpa using hn
  have e3 : (((rs.length : Nat) : Int) != (ln : Nat)) = true := by simp; omega
  clear HP2 HP3 HBA2 hab hn HTL HLL
  generalize rs.length = q at *
  go_enter Try.func18, Try.ntmps18
  go_upto_region 1 with fail
  rw [← unhide HP, ← unhide HW1]
  go_wp2_with fail
  refine (unhide HMY w1 (unhide HB1)).mono ?_
  rintro _ w2 ⟨rfl, hb2⟩
  have hz2 : Below w1.heap.size w1 w2 := hb2
  have HB2 := hide ((unhide HB1).trans (hb2.mono (unhide HB1).size))
  clear hb2
  go_wp2_with fail
  go_ret2
  exact unhide HFIN _ _ (unhide HB2) (unhide HPX)
end Go.Proofs.Ytbkciniikahjhaa
