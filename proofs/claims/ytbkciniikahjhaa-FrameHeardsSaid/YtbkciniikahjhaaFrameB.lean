/- Contract of frame.May. Conditions: none beyond what each theorem states. -/
import Derived.Test.YtbkciniikahjhaaFrameA
namespace Go.Proofs.Ytbkciniikahjhaa
open Go.RowKit
set_option linter.unusedVariables false

theorem badLab_may (b : Nat) (hb : b ≤ 8) (z : Int) (h : mayB z = false) : badLab b z = true := by
  have hp : (2:Nat) ^ b ≤ 2 ^ 8 := Nat.pow_le_pow_right (by omega) hb
  have hp' : (2:Int) ^ b ≤ 256 := by
    have : ((2 ^ b : Nat) : Int) ≤ 256 := by omega
    simpa using this
  unfold mayB at h
  unfold badLab
  simp only [Int.toNat_natCast]
  simp at h ⊢
  omega
theorem mayClo1_any (z : Int) (b : Nat) (hb : b ≤ 8) (hz : z ≤ 9223372036854775807) (p : Nat) (w : World) (hp : w.cell? ⟨p, 0, none⟩ = some (.int .i64 b)) :
    Calls Try.prog 27 #[.int .i64 z, .pointer (some ⟨p, 0, none⟩)] w fun x w' => x = .returned (.bool (badLab b z)) ∧ w = w' := by
  have H := hide (labMay_any z hz w)
  cases hm : mayB z with
  | false =>
    have HF := hide (badLab_may b hb z hm)
    rw [hm] at H
    clear hm
    go_enter Try.func27, Try.ntmps27
    go_wp2_with fail
    refine (unhide H).mono ?_
    rintro _ _ ⟨rfl, rfl⟩
    go_wp2_with fail
    go_ret
    exact ⟨ret_bool (unhide HF).symm, rfl⟩
  | true =>
    rw [hm] at H
    have h2 : 0 ≤ z ∧ z ≤ 255 := by simpa [mayB] using hm
    obtain ⟨s, rfl⟩ := Int.eq_ofNat_of_zero_le h2.1
    have hs : s ≤ 255 := by omega
    have HF := hide (show badLab b s = decide ((0 : Int) < (s : Int) / 2 ^ b) by
      rw [shr_pos]
      unfold badLab
      simp only [Int.toNat_natCast]
      have e : ((2 : Int) ^ b ≤ (s : Int)) ↔ 2 ^ b ≤ s := by
        have : ((2 ^ b : Nat) : Int) = (2 : Int) ^ b := by simp
        rw [← this]; omega
      rw [Bool.eq_iff_iff]; simp [e]; omega)
    clear hm h2 hz
    go_enter Try.func27, Try.ntmps27
    go_wp2_with fail
    refine (unhide H).mono ?_
    rintro _ _ ⟨rfl, rfl⟩
    go_wp2_with fail
    go_ret
    exact ⟨ret_bool (unhide HF).symm, rfl⟩

set_option maxHeartbeats 1600000 in
theorem frameMay_any (c : Cfg) (B : Nat) (w : World) (hc : c.ok w B) (hB : B ≤ w.heap.size) :
    Calls Try.prog 9 #[c.val] w fun e w' => e = .returned (.bool (configP c)) ∧ Below w.heap.size w w' := by
  obtain ⟨br, ⟨lA, ln, lc, ls⟩, tk, ⟨mA, mn, mc, ms⟩, cap⟩ := c
  obtain ⟨⟨l1, l2, l3, l4⟩, ⟨m1, m2, m3, m4⟩, lw⟩ := hc
  dsimp only at l1 l2 l3 l4 m1 m2 m3 m4 lw
  unfold Cfg.val
  dsimp only
  obtain ⟨wx, hwx⟩ : ∃ wx, wx = w.alloc (.cells #[.int .i64 br, .slice lA ln lc, .int .i64 tk, .slice mA mn mc, .int .i64 cap] 24) := ⟨_, rfl⟩
  have hbx : Below w.heap.size w wx := by rw [hwx]; exact (Below.refl _ _).alloc (Nat.le_refl _) _
  have hnew := Blk.new w 24 #[.int .i64 br, .slice lA ln lc, .int .i64 tk, .slice mA mn mc, .int .i64 cap]
  rw [← hwx] at hnew
  have c0 : wx.cell? ⟨w.heap.size, 0, none⟩ = some (.int .i64 br) := hnew.cell 0
  have c1 : wx.cell? ⟨w.heap.size, 1, none⟩ = some (.slice lA ln lc) := hnew.cell 1
  have c2 : wx.cell? ⟨w.heap.size, 2, none⟩ = some (.int .i64 tk) := hnew.cell 2
  have c3 : wx.cell? ⟨w.heap.size, 3, none⟩ = some (.slice mA mn mc) := hnew.cell 3
  have c4 : wx.cell? ⟨w.heap.size, 4, none⟩ = some (.int .i64 cap) := hnew.cell 4
  have HP := hide (show configP ⟨br, ⟨lA, ln, lc, ls⟩, tk, ⟨mA, mn, mc, ms⟩, cap⟩ = (inB br 1 8 && decide (ln ≤ 4) && inB tk 1 8 && inB mn 1 3 && inB cap 0 1048576 && !(ls.any (badLab br)) && !(ms.any badN)) by
    unfold configP; dsimp only; rw [l1, m1])
  have H1 := hide (frameIn_any br 1 8 wx)
  have H3 := hide (frameIn_any tk 1 8 wx)
  have H4 := hide (frameIn_any mn 1 3 wx)
  have H5 := hide (frameIn_any cap 0 1048576 wx)
  have H6 := hide (show inB br 1 8 = true → Calls Try.prog 26 #[.slice lA ln lc, .func (.func 27) #[] #[.pointer (some ⟨w.heap.size, 0, none⟩)]] wx (fun e w' => e = .returned (.bool (ls.any (badLab br))) ∧ wx = w') from fun hb => by
    have hb2 : 1 ≤ br ∧ br ≤ 8 := by simpa [inB] using hb
    obtain ⟨b, rfl⟩ := Int.eq_ofNat_of_zero_le (show 0 ≤ br by omega)
    exact intContains_any 27 #[.pointer (some ⟨w.heap.size, 0, none⟩)] (badLab b) lA ln lc ls B (fun W => wx = W) wx l1 (by omega) (fun W hW => hW ▸ (l4.below (hbx.mono hB))) rfl
      (callFunc_enters Try.func27 (by kernel_rfl) rfl)
      (fun z W hz hW => by subst hW; exact mayClo1_any z b (by omega) (wf_i64_bounds (lw z hz)).2 _ wx c0))
  have H7 := hide (intContains_any 29 #[] badN mA mn mc ms B (fun W => wx = W) wx m1 (by omega) (fun W hW => hW ▸ (m4.below (hbx.mono hB))) rfl
    (callFunc_enters Try.func29 (by kernel_rfl) rfl) (fun z W _ hW => (mayClo2_any z W).mono fun x w' ⟨hx, hw'⟩ => ⟨hx, hW.trans hw'⟩))
  have hln : ln ≤ 9223372036854775807 := by unfold maxLen at l3; omega
  have hmn : mn ≤ 9223372036854775807 := by unfold maxLen at m3; omega
  have HBX := hide hbx
  have HWX := hide hwx
  clear hbx hwx hnew l1 l2 l3 l4 m1 m2 m3 m4 lw
  cases h1 : inB br 1 8 with
  | false =>
    rw [h1] at H1
    have HG := hide (show configP ⟨br, ⟨lA, ln, lc, ls⟩, tk, ⟨mA, mn, mc, ms⟩, cap⟩ = false by rw [unhide HP, h1]; simp)
    clear  h1 HP
    go_enter Try.func9, Try.ntmps9
    go_wp2_with fail
    rw [← unhide HWX]
    refine (unhide H1).mono ?_
    rintro _ _ ⟨rfl, rfl⟩
    go_wp2_with fail
    go_ret
    exact ⟨ret_bool (unhide HG).symm, unhide HBX⟩
  | true =>
    rw [h1] at H1
    by_cases h2 : ln ≤ 4
    rotate_left
    · have HG := hide (show configP ⟨br, ⟨lA, ln, lc, ls⟩, tk, ⟨mA, mn, mc, ms⟩, cap⟩ = false by rw [unhide HP]; simp [h2])
      have h2' : 4 < ln := by omega
      clear h1 h2 HP
      go_enter Try.func9, Try.ntmps9
      go_wp2_with fail
      rw [← unhide HWX]
      refine (unhide H1).mono ?_
      rintro _ _ ⟨rfl, rfl⟩
      go_wp2_with fail
      go_ret
      exact ⟨ret_bool (unhide HG).symm, unhide HBX⟩
    cases h3 : inB tk 1 8 with
    | false =>
      rw [h3] at H3
      have HG := hide (show configP ⟨br, ⟨lA, ln, lc, ls⟩, tk, ⟨mA, mn, mc, ms⟩, cap⟩ = false by rw [unhide HP, h3]; simp)
      clear h1 h3 HP
      go_enter Try.func9, Try.ntmps9
      go_wp2_with fail
      rw [← unhide HWX]
      refine (unhide H1).mono ?_
      rintro _ _ ⟨rfl, rfl⟩
      go_wp2_with fail
      refine (unhide H3).mono ?_
      rintro _ _ ⟨rfl, rfl⟩
      go_wp2_with fail
      go_ret
      exact ⟨ret_bool (unhide HG).symm, unhide HBX⟩
    | true =>
      rw [h3] at H3
      cases h4 : inB mn 1 3 with
      | false =>
        rw [h4] at H4
        have HG := hide (show configP ⟨br, ⟨lA, ln, lc, ls⟩, tk, ⟨mA, mn, mc, ms⟩, cap⟩ = false by rw [unhide HP, h4]; simp)
        clear h1 h3 h4 HP
        go_enter Try.func9, Try.ntmps9
        go_wp2_with fail
        rw [← unhide HWX]
        refine (unhide H1).mono ?_
        rintro _ _ ⟨rfl, rfl⟩
        go_wp2_with fail
        refine (unhide H3).mono ?_
        rintro _ _ ⟨rfl, rfl⟩
        go_wp2_with fail
        refine (unhide H4).mono ?_
        rintro _ _ ⟨rfl, rfl⟩
        go_wp2_with fail
        go_ret
        exact ⟨ret_bool (unhide HG).symm, unhide HBX⟩
      | true =>
        rw [h4] at H4
        cases h5 : inB cap 0 1048576 with
        | false =>
          rw [h5] at H5
          have HG := hide (show configP ⟨br, ⟨lA, ln, lc, ls⟩, tk, ⟨mA, mn, mc, ms⟩, cap⟩ = false by rw [unhide HP, h5]; simp)
          clear h1 h3 h4 h5 HP
          go_enter Try.func9, Try.ntmps9
          go_wp2_with fail
          rw [← unhide HWX]
          refine (unhide H1).mono ?_
          rintro _ _ ⟨rfl, rfl⟩
          go_wp2_with fail
          refine (unhide H3).mono ?_
          rintro _ _ ⟨rfl, rfl⟩
          go_wp2_with fail
          refine (unhide H4).mono ?_
          rintro _ _ ⟨rfl, rfl⟩
          go_wp2_with fail
          refine (unhide H5).mono ?_
          rintro _ _ ⟨rfl, rfl⟩
          go_wp2_with fail
          go_ret
          exact ⟨ret_bool (unhide HG).symm, unhide HBX⟩
        | true =>
          rw [h5] at H5
          have H6' := hide (unhide H6 h1)
          cases h6 : ls.any (badLab br) with
          | true =>
            rw [h6] at H6'
            have HG := hide (show configP ⟨br, ⟨lA, ln, lc, ls⟩, tk, ⟨mA, mn, mc, ms⟩, cap⟩ = false by rw [unhide HP, h6]; simp)
            clear h1 h3 h4 h5 h6 HP
            go_enter Try.func9, Try.ntmps9
            go_wp2_with fail
            rw [← unhide HWX]
            refine (unhide H1).mono ?_
            rintro _ _ ⟨rfl, rfl⟩
            go_wp2_with fail
            refine (unhide H3).mono ?_
            rintro _ _ ⟨rfl, rfl⟩
            go_wp2_with fail
            refine (unhide H4).mono ?_
            rintro _ _ ⟨rfl, rfl⟩
            go_wp2_with fail
            refine (unhide H5).mono ?_
            rintro _ _ ⟨rfl, rfl⟩
            go_wp2_with fail
            refine (unhide H6').mono ?_
            rintro _ _ ⟨rfl, rfl⟩
            go_wp2_with fail
            go_ret
            exact ⟨ret_bool (unhide HG).symm, unhide HBX⟩
          | false =>
            rw [h6] at H6'
            have HG := hide (show configP ⟨br, ⟨lA, ln, lc, ls⟩, tk, ⟨mA, mn, mc, ms⟩, cap⟩ = !(ms.any badN) by rw [unhide HP, h1, h3, h4, h5, h6]; simp [h2])
            generalize ms.any badN = x at H7 HG
            clear h1 h3 h4 h5 h6 HP
            go_enter Try.func9, Try.ntmps9
            go_wp2_with fail
            rw [← unhide HWX]
            refine (unhide H1).mono ?_
            rintro _ _ ⟨rfl, rfl⟩
            go_wp2_with fail
            refine (unhide H3).mono ?_
            rintro _ _ ⟨rfl, rfl⟩
            go_wp2_with fail
            refine (unhide H4).mono ?_
            rintro _ _ ⟨rfl, rfl⟩
            go_wp2_with fail
            refine (unhide H5).mono ?_
            rintro _ _ ⟨rfl, rfl⟩
            go_wp2_with fail
            refine (unhide H6').mono ?_
            rintro _ _ ⟨rfl, rfl⟩
            go_wp2_with fail
            refine (unhide H7).mono ?_
            rintro _ _ ⟨rfl, rfl⟩
            go_wp2_with fail
            go_ret
            exact ⟨ret_bool (unhide HG).symm, unhide HBX⟩
end Go.Proofs.Ytbkciniikahjhaa
