/- The walk of the law on frame.Asked: it returns true, and writes nothing that was there. Conditions: none beyond what each theorem states. -/
import Derived.Test.YtbkciniikahjhaaFrameE
import Derived.Test.YtbkciniikahjhaaIntRow
namespace Go.Proofs.Ytbkciniikahjhaa
open Go.RowKit
set_option linter.unusedVariables false

theorem u8_bounds {n : Int} (h : (Lit.int .u8 n).wf = true) : 0 ≤ n ∧ n ≤ 255 := by
  have hmin : IntKind.u8.min = 0 := rfl
  have hmax : IntKind.u8.max = 255 := rfl
  simp only [Lit.wf, Bool.and_eq_true, decide_eq_true_eq] at h
  omega
theorem walk_FrameAskeds (c : Cfg) (A : Option Addr) (n k : Nat) (zs : List Int) (w : World) (hc : c.ok w w.heap.size) (l : n ≤ k) (m : k ≤ maxLen) (e : zs.length = n) (hr : Reads w w.heap.size 1 A n (zs.map (.int .u8))) (_hw : ∀ z ∈ zs, (Lit.int .u8 z).wf = true) :
    Calls Try.prog 5 #[c.val, .slice A n k] w fun e w' => e = .returned (.bool true) ∧ Below w.heap.size w w' := by
  have hwz : ∀ z ∈ zs, 0 ≤ z ∧ z ≤ 255 := fun z hz => u8_bounds (_hw z hz)
  have H1 := hide (fun W (hW : Below w.heap.size w W) => asked_any c A n k zs w.heap.size W (hc.below hW) e l m (hr.below hW) hwz hW.size)
  have H2 := hide (fun W (hW : Below w.heap.size w W) => asked_ref c A n k zs w.heap.size W (hc.below hW) e l m (hr.below hW) hwz hW.size)
  unfold AskedPost at H1 H2
  generalize askedP c zs = r at H1 H2
  obtain ⟨br, ⟨lA, ln, lc, ls⟩, tk, ⟨mA, mn, mc, ms⟩, cap⟩ := c
  unfold Cfg.val at H1 H2 ⊢
  dsimp only at H1 H2 ⊢
  obtain ⟨wx, hwx⟩ : ∃ wx, wx = w.alloc (.cells #[.int .i64 br, .slice lA ln lc, .int .i64 tk, .slice mA mn mc, .int .i64 cap] 24) := ⟨_, rfl⟩
  have hbx : Below w.heap.size w wx := by rw [hwx]; exact (Below.refl _ _).alloc (Nat.le_refl _) _
  have hsx : w.heap.size < wx.heap.size := by rw [hwx]; simp
  have hnew := Blk.new w 24 #[.int .i64 br, .slice lA ln lc, .int .i64 tk, .slice mA mn mc, .int .i64 cap]
  rw [← hwx] at hnew
  have c0 : ∀ W, Below wx.heap.size wx W → W.cell? ⟨w.heap.size, 0, none⟩ = some (.int .i64 br) := fun W hW => (Blk.below hnew hW hsx).cell 0
  have c1 : ∀ W, Below wx.heap.size wx W → W.cell? ⟨w.heap.size, 1, none⟩ = some (.slice lA ln lc) := fun W hW => (Blk.below hnew hW hsx).cell 1
  have c2 : ∀ W, Below wx.heap.size wx W → W.cell? ⟨w.heap.size, 2, none⟩ = some (.int .i64 tk) := fun W hW => (Blk.below hnew hW hsx).cell 2
  have c3 : ∀ W, Below wx.heap.size wx W → W.cell? ⟨w.heap.size, 3, none⟩ = some (.slice mA mn mc) := fun W hW => (Blk.below hnew hW hsx).cell 3
  have c4 : ∀ W, Below wx.heap.size wx W → W.cell? ⟨w.heap.size, 4, none⟩ = some (.int .i64 cap) := fun W hW => (Blk.below hnew hW hsx).cell 4
  have hz0 : Below wx.heap.size wx wx := Below.refl _ _
  have HBX := hide hbx
  have HWX := hide hwx
  clear hwx hbx hnew hc hr e l m hwz
  go_enter Try.func5, Try.ntmps5
  go_wp2_with fail
  rw [← unhide HWX]
  refine (unhide H1 wx (unhide HBX)).mono ?_
  rintro _ w1 ⟨v1, rfl, ho1, hb1⟩
  obtain ⟨A1, c1', rfl, hc1⟩ := own_slice ho1
  have hz1 : Below wx.heap.size wx w1 := hb1
  have HB1 := hide ((unhide HBX).trans (hb1.mono (unhide HBX).size))
  have HO1 := hide ho1
  clear hb1 ho1 hz0
  go_wp2_with fail
  refine (unhide H2 _ (unhide HB1)).mono ?_
  rintro _ w2 ⟨v2, rfl, ho2, hb2⟩
  obtain ⟨A2, c2', rfl, hc2⟩ := own_slice ho2
  have hr1 := ((Reads.of_own (unhide HO1)).below hb2).more hb2.size
  have hr2 := Reads.of_own ho2
  have HS := hide (sameInts_row A1 A2 _ c1' c2' r.1 _ w2 rfl (own_len9 ho2) hr1 hr2)
  have HB2 := hide ((unhide HB1).trans (hb2.mono (unhide HB1).size))
  clear ho2 hb2 hr1 hr2 hz1
  go_wp2_with fail
  refine (unhide HS).mono ?_
  rintro _ w3 ⟨rfl, nq, rfl⟩
  go_wp2_with fail
  go_ret
  exact ⟨by simp, below_drewN (unhide HB2) _⟩
end Go.Proofs.Ytbkciniikahjhaa
