/- Contract of the reference's ConfigMay; the walk of the law on frame.May. Conditions: none beyond what each theorem states. -/
import Derived.Test.YtbkciniikahjhaaFrameB
import Derived.Test.YtbkciniikahjhaaCalm
namespace Go.Proofs.Ytbkciniikahjhaa
open Go.RowKit
set_option linter.unusedVariables false

set_option maxRecDepth 100000 in
set_option maxHeartbeats 4000000 in
theorem configMay_any (c : Cfg) (B : Nat) (w : World) (hc : c.ok w B) (hB : B ≤ w.heap.size) :
    Calls Try.prog 10 #[c.val] w fun e w' => e = .returned (.bool (configP c)) ∧ Below w.heap.size w w' := by
  obtain ⟨br, ⟨lA, ln, lc, ls⟩, tk, ⟨mA, mn, mc, ms⟩, cap⟩ := c
  obtain ⟨⟨l1, l2, l3, l4⟩, ⟨m1, m2, m3, m4⟩, lw⟩ := hc
  dsimp only at l1 l2 l3 l4 m1 m2 m3 m4 lw
  unfold Cfg.val
  dsimp only
  obtain ⟨wx, hwx⟩ : ∃ wx, wx = w.alloc (.cells #[.int .i64 br, .slice lA ln lc, .int .i64 tk, .slice mA mn mc, .int .i64 cap] 24) := ⟨_, rfl⟩
  have hbx : Below w.heap.size w wx := by rw [hwx]; exact (Below.refl _ _).alloc (Nat.le_refl _) _
  have hnew := Blk.new w 24 #[.int .i64 br, .slice lA ln lc, .int .i64 tk, .slice mA mn mc, .int .i64 cap]
  rw [← hwx] at hnew
  have c0 : wx.cell? ⟨w.heap.size, 0, none⟩ = some (.int .i64 br) := hnew.cell 0
  have c1 : wx.cell? ⟨w.heap.size, 1, none⟩ = some (.slice lA ln lc) := hnew.cell 1
  have c2 : wx.cell? ⟨w.heap.size, 2, none⟩ = some (.int .i64 tk) := hnew.cell 2
  have c3 : wx.cell? ⟨w.heap.size, 3, none⟩ = some (.slice mA mn mc) := hnew.cell 3
  have c4 : wx.cell? ⟨w.heap.size, 4, none⟩ = some (.int .i64 cap) := hnew.cell 4
  have HP := hide (show configP ⟨br, ⟨lA, ln, lc, ls⟩, tk, ⟨mA, mn, mc, ms⟩, cap⟩ = (inB br 1 8 && decide (ln ≤ 4) && inB tk 1 8 && inB mn 1 3 && inB cap 0 1048576 && !(ls.any (badLab br)) && !(ms.any badN)) by
    unfold configP; dsimp only; rw [l1, m1])
  have hln : ln ≤ 9223372036854775807 := by unfold maxLen at l3; omega
  have hmn : mn ≤ 9223372036854775807 := by unfold maxLen at m3; omega
  have HBX := hide hbx
  have HWX := hide hwx
  have HLR := hide (l4.below (hbx.mono hB))
  have HMR := hide (m4.below (hbx.mono hB))
  have HLL := hide l1
  have HML := hide m1
  clear hbx hwx hnew l1 l2 l3 l4 m1 m2 m3 m4 lw
  by_cases h0 : br < 1
  · have HG := hide (show configP ⟨br, ⟨lA, ln, lc, ls⟩, tk, ⟨mA, mn, mc, ms⟩, cap⟩ = false by rw [unhide HP]; simp [inB]; omega)
    clear HP
    go_enter Try.func10, Try.ntmps10
    go_wp2_with fail
    rw [← unhide HWX]
    go_ret
    exact ⟨ret_bool (unhide HG).symm, unhide HBX⟩
  have g0 : 1 ≤ br := by omega
  clear h0
  by_cases h1 : 8 < br
  · have HG := hide (show configP ⟨br, ⟨lA, ln, lc, ls⟩, tk, ⟨mA, mn, mc, ms⟩, cap⟩ = false by rw [unhide HP]; simp [inB]; omega)
    clear HP
    go_enter Try.func10, Try.ntmps10
    go_wp2_with fail
    rw [← unhide HWX]
    go_ret
    exact ⟨ret_bool (unhide HG).symm, unhide HBX⟩
  have g1 : br ≤ 8 := by omega
  clear h1
  by_cases h2 : 4 < ln
  · have HG := hide (show configP ⟨br, ⟨lA, ln, lc, ls⟩, tk, ⟨mA, mn, mc, ms⟩, cap⟩ = false by rw [unhide HP]; simp [inB]; omega)
    clear HP
    go_enter Try.func10, Try.ntmps10
    go_wp2_with fail
    rw [← unhide HWX]
    go_ret
    exact ⟨ret_bool (unhide HG).symm, unhide HBX⟩
  have g2 : ln ≤ 4 := by omega
  clear h2
  by_cases h3 : tk < 1
  · have HG := hide (show configP ⟨br, ⟨lA, ln, lc, ls⟩, tk, ⟨mA, mn, mc, ms⟩, cap⟩ = false by rw [unhide HP]; simp [inB]; omega)
    clear HP
    go_enter Try.func10, Try.ntmps10
    go_wp2_with fail
    rw [← unhide HWX]
    go_ret
    exact ⟨ret_bool (unhide HG).symm, unhide HBX⟩
  have g3 : 1 ≤ tk := by omega
  clear h3
  by_cases h4 : 8 < tk
  · have HG := hide (show configP ⟨br, ⟨lA, ln, lc, ls⟩, tk, ⟨mA, mn, mc, ms⟩, cap⟩ = false by rw [unhide HP]; simp [inB]; omega)
    clear HP
    go_enter Try.func10, Try.ntmps10
    go_wp2_with fail
    rw [← unhide HWX]
    go_ret
    exact ⟨ret_bool (unhide HG).symm, unhide HBX⟩
  have g4 : tk ≤ 8 := by omega
  clear h4
  by_cases h5 : mn < 1
  · have HG := hide (show configP ⟨br, ⟨lA, ln, lc, ls⟩, tk, ⟨mA, mn, mc, ms⟩, cap⟩ = false by rw [unhide HP]; simp [inB]; omega)
    clear HP
    go_enter Try.func10, Try.ntmps10
    go_wp2_with fail
    rw [← unhide HWX]
    go_ret
    exact ⟨ret_bool (unhide HG).symm, unhide HBX⟩
  have g5 : 1 ≤ mn := by omega
  clear h5
  by_cases h6 : 3 < mn
  · have HG := hide (show configP ⟨br, ⟨lA, ln, lc, ls⟩, tk, ⟨mA, mn, mc, ms⟩, cap⟩ = false by rw [unhide HP]; simp [inB]; omega)
    clear HP
    go_enter Try.func10, Try.ntmps10
    go_wp2_with fail
    rw [← unhide HWX]
    go_ret
    exact ⟨ret_bool (unhide HG).symm, unhide HBX⟩
  have g6 : mn ≤ 3 := by omega
  clear h6
  by_cases h7 : cap < 0
  · have HG := hide (show configP ⟨br, ⟨lA, ln, lc, ls⟩, tk, ⟨mA, mn, mc, ms⟩, cap⟩ = false by rw [unhide HP]; simp [inB]; omega)
    clear HP
    go_enter Try.func10, Try.ntmps10
    go_wp2_with fail
    rw [← unhide HWX]
    go_ret
    exact ⟨ret_bool (unhide HG).symm, unhide HBX⟩
  have g7 : 0 ≤ cap := by omega
  clear h7
  by_cases h8 : 1048576 < cap
  · have HG := hide (show configP ⟨br, ⟨lA, ln, lc, ls⟩, tk, ⟨mA, mn, mc, ms⟩, cap⟩ = false by rw [unhide HP]; simp [inB]; omega)
    clear HP
    go_enter Try.func10, Try.ntmps10
    go_wp2_with fail
    rw [← unhide HWX]
    go_ret
    exact ⟨ret_bool (unhide HG).symm, unhide HBX⟩
  have g8 : cap ≤ 1048576 := by omega
  clear h8
  obtain ⟨b, rfl⟩ := Int.eq_ofNat_of_zero_le (show 0 ≤ br by omega)
  have hb8 : b ≤ 8 := by omega
  have HQ := hide (show configP ⟨(b : Int), ⟨lA, ln, lc, ls⟩, tk, ⟨mA, mn, mc, ms⟩, cap⟩ = (!(ls.any (badLab b)) && !(ms.any badN)) by
    have e1 : inB (b : Int) 1 8 = true := by simp [inB]; omega
    have e2 : decide (ln ≤ 4) = true := by simp; omega
    have e3 : inB tk 1 8 = true := by simp [inB]; omega
    have e4 : inB mn 1 3 = true := by simp [inB]; omega
    have e5 : inB cap 0 1048576 = true := by simp [inB]; omega
    rw [unhide HP, e1, e2, e3, e4, e5]; simp)
  generalize configP ⟨(b : Int), ⟨lA, ln, lc, ls⟩, tk, ⟨mA, mn, mc, ms⟩, cap⟩ = R at HQ ⊢
  have hp1 : (2:Int) ^ b ≤ 256 := by
    have hp : (2:Nat) ^ b ≤ 2 ^ 8 := Nat.pow_le_pow_right (by omega) hb8
    have : ((2 ^ b : Nat) : Int) ≤ 256 := by omega
    simpa using this
  have hp0 : (0:Int) ≤ (2:Int) ^ b := by
    have : (0 : Int) ≤ ((2 ^ b : Nat) : Int) := Int.natCast_nonneg _
    simpa using this
  clear HP
  go_enter Try.func10, Try.ntmps10
  go_wp2_with fail
  rw [← unhide HWX]
  go_loop [56] (fun i => ∃ (k : Nat), k ≤ ln ∧ i = .int .i64 k ∧ Hid ((ls.drop k).any (badLab b) = ls.any (badLab b))) (fun i => ln - (intOf i).toNat)
  case atStart => exact ⟨0, Nat.zero_le _, rfl, rfl⟩
  case round =>
    obtain ⟨k, hk, rfl, HX⟩ := hrel
    by_cases hlt : k < ln
    · obtain ⟨b1, o1, z, rfl, hbl, hz, hcz⟩ := at_num (unhide HLR) hlt
      have HX2 := hide (by have h := unhide HX; rw [drop_cons ls k z hz, List.any_cons] at h; exact h)
      clear HX hz
      by_cases hz0 : z < 0
      · have HG := hide (show R = false by rw [unhide HQ, ← unhide HX2]; simp [badLab, hz0])
        go_wp2_with fail
        go_ret
        exact ⟨ret_bool (unhide HG).symm, unhide HBX⟩
      by_cases hz1 : (2:Int) ^ b ≤ z
      · have HG := hide (show R = false by rw [unhide HQ, ← unhide HX2]; simp [badLab, hz1])
        have hz0' : 0 ≤ z := by omega
        go_wp2_with fail
        go_ret
        exact ⟨ret_bool (unhide HG).symm, unhide HBX⟩
      have hz0' : 0 ≤ z := by omega
      have hz1' : z < (2:Int) ^ b := by omega
      have HX3 := hide (show (ls.drop (k + 1)).any (badLab b) = ls.any (badLab b) by rw [← unhide HX2]; simp [badLab, hz0, hz1])
      clear HX2 hz0 hz1
      go_wp2_with fail
      go_round
      case rel => exact ⟨k + 1, by omega, by go_num, unhide HX3⟩
      case measure => simp [intOf]; omega
    · obtain rfl : k = ln := by omega
      have HL := hide (show ls.any (badLab b) = false by
        have h := unhide HX
        rw [List.drop_of_length_le (by rw [unhide HLL]; exact Nat.le_refl _)] at h
        exact h.symm)
      clear HX
      go_wp2_with fail
      go_loop [73] (fun i => ∃ (j : Nat), j ≤ mn ∧ i = .int .i64 j ∧ Hid ((ms.drop j).any badN = ms.any badN)) (fun i => mn - (intOf i).toNat)
      case atStart => exact ⟨0, Nat.zero_le _, rfl, rfl⟩
      case round =>
        obtain ⟨j, hj, rfl, HX⟩ := hrel
        by_cases hlt2 : j < mn
        · obtain ⟨b1, o1, z, rfl, hbl, hz, hcz⟩ := at_num (unhide HMR) hlt2
          have HX2 := hide (by have h := unhide HX; rw [drop_cons ms j z hz, List.any_cons] at h; exact h)
          clear HX hz
          by_cases hz0 : z < 0
          · have HG := hide (show R = false by rw [unhide HQ, ← unhide HX2]; simp [badN, hz0])
            go_wp2_with fail
            go_ret
            exact ⟨ret_bool (unhide HG).symm, unhide HBX⟩
          by_cases hz1 : 1048576 < z
          · have HG := hide (show R = false by rw [unhide HQ, ← unhide HX2]; simp [badN, hz1])
            have hz0' : 0 ≤ z := by omega
            go_wp2_with fail
            go_ret
            exact ⟨ret_bool (unhide HG).symm, unhide HBX⟩
          have hz0' : 0 ≤ z := by omega
          have hz1' : z ≤ 1048576 := by omega
          have HX3 := hide (show (ms.drop (j + 1)).any badN = ms.any badN by rw [← unhide HX2]; simp [badN, hz0, hz1])
          clear HX2 hz0 hz1
          go_wp2_with fail
          go_round
          case rel => exact ⟨j + 1, by omega, by go_num, unhide HX3⟩
          case measure => simp [intOf]; omega
        · obtain rfl : j = mn := by omega
          have HG := hide (show R = true by
            have h := unhide HX
            rw [List.drop_of_length_le (by rw [unhide HML]; exact Nat.le_refl _)] at h
            rw [unhide HQ, ← h, unhide HL]; rfl)
          clear HX
          go_wp2_with fail
          go_ret
          exact ⟨ret_bool (unhide HG).symm, unhide HBX⟩

theorem walk_FrameMays (c : Cfg) (w : World) (hc : c.ok w w.heap.size) :
    Calls Try.prog 3 #[c.val] w fun e w' => e = .returned (.bool true) ∧ Below w.heap.size w w' := by
  obtain ⟨br, ⟨lA, ln, lc, ls⟩, tk, ⟨mA, mn, mc, ms⟩, cap⟩ := c
  unfold Cfg.val
  dsimp only
  obtain ⟨wx, hwx⟩ : ∃ wx, wx = w.alloc (.cells #[.int .i64 br, .slice lA ln lc, .int .i64 tk, .slice mA mn mc, .int .i64 cap] 24) := ⟨_, rfl⟩
  have hbx : Below w.heap.size w wx := by rw [hwx]; exact (Below.refl _ _).alloc (Nat.le_refl _) _
  have hnew := Blk.new w 24 #[.int .i64 br, .slice lA ln lc, .int .i64 tk, .slice mA mn mc, .int .i64 cap]
  rw [← hwx] at hnew
  have g0 : ∀ n : Ext wx, n.W.cell? ⟨w.heap.size, 0, none⟩ = some (.int .i64 br) := fun n => n.cell (hnew.cell 0)
  have g1 : ∀ n : Ext wx, n.W.cell? ⟨w.heap.size, 1, none⟩ = some (.slice lA ln lc) := fun n => n.cell (hnew.cell 1)
  have g2 : ∀ n : Ext wx, n.W.cell? ⟨w.heap.size, 2, none⟩ = some (.int .i64 tk) := fun n => n.cell (hnew.cell 2)
  have g3 : ∀ n : Ext wx, n.W.cell? ⟨w.heap.size, 3, none⟩ = some (.slice mA mn mc) := fun n => n.cell (hnew.cell 3)
  have g4 : ∀ n : Ext wx, n.W.cell? ⟨w.heap.size, 4, none⟩ = some (.int .i64 cap) := fun n => n.cell (hnew.cell 4)
  have HNB := hide (fun n : Ext wx => (show Below w.heap.size w n.W from hbx.trans (n.h.mono hbx.size)))
  obtain ⟨b, hb⟩ : ∃ b, configP ⟨br, ⟨lA, ln, lc, ls⟩, tk, ⟨mA, mn, mc, ms⟩, cap⟩ = b := ⟨_, rfl⟩
  have H1 := hide (fun n : Ext wx => frameMay_any ⟨br, ⟨lA, ln, lc, ls⟩, tk, ⟨mA, mn, mc, ms⟩, cap⟩ w.heap.size n.W (hc.below (unhide HNB n)) (unhide HNB n).size)
  have H2 := hide (fun n : Ext wx => configMay_any ⟨br, ⟨lA, ln, lc, ls⟩, tk, ⟨mA, mn, mc, ms⟩, cap⟩ w.heap.size n.W (hc.below (unhide HNB n)) (unhide HNB n).size)
  unfold Cfg.val at H1 H2
  dsimp only at H1 H2
  rw [hb] at H1 H2
  have HWX := hide hwx
  clear hwx hbx hnew hb hc
  go_enter Try.func3, Try.ntmps3
  go_wp2_with fail
  rw [← unhide HWX]
  refine wp_region_calm (by kernel_rfl) (by kernel_rfl) ?_
  repeat (go_big_quiet_step ((first | (go_at_call 9; exact calm_call (unhide H1 _)) | (go_at_call 10; exact calm_call (unhide H2 _)))))
  refine wpQuiet_nil ?_
  rintro _ ⟨nq, rfl⟩
  go_wp2_with fail
  go_ret
  exact ⟨by simp, unhide HNB nq⟩
end Go.Proofs.Ytbkciniikahjhaa
