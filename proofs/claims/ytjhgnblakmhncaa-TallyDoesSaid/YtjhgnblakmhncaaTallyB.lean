/- Contract of the reference's TallyMay; the walk of the law on tally.May. Conditions: none beyond what each theorem states. -/
import Derived.Test.YtjhgnblakmhncaaTallyA
namespace Go.Proofs.Ytjhgnblakmhncaa
open Go.RowKit
set_option linter.unusedVariables false

theorem fineP_len {l : List Int} {n : Nat} (h : l.length ≠ n) : fineP l n = false := by simp [fineP, h]
set_option maxHeartbeats 1600000 in
theorem tallyMay_ref (t : Tly) (B : Nat) (w : World) (ht : t.ok w B) (hB : B ≤ w.heap.size) :
    Calls Try.prog 8 #[t.val] w fun e w' => e = .returned (.bool (tallyP t.mv t.u.zs)) ∧ Below w.heap.size w w' := by
  obtain ⟨A, m, c, rs, ⟨uA, n, uc, us⟩⟩ := t
  have ht1 := ht.1
  have ht2 := ht.2.1
  have HT := hide (ht.2.2.1.more hB)
  have HU := hide (ht.2.2.2.more hB)
  have HML := hide (show (rs.map (·.zs)).length = m by rw [List.length_map]; exact ht.2.2.1.1)
  have hul : us.length = n := ht.2.2.2.1
  have HUL := hide hul
  have hu1 := ht.2.2.2.2.1
  have hu2 := ht.2.2.2.2.2.1
  unfold maxLen at ht2 hu2
  dsimp only at ht1 ht2 hu1 hu2
  unfold Tly.val Tly.mv
  dsimp only
  have HP := hide (show tallyP (rs.map (·.zs)) us = (decide (1 ≤ n) && decide (n ≤ 8) && fineP us n && decide (m = n) && !(rs.any fun r => !fineP r.zs n)) by
    unfold tallyP
    rw [hul, unhide HML, List.any_map]
    rfl)
  clear ht hul
  have HB0 := hide ((Below.refl w.heap.size w).alloc (Nat.le_refl _) (.cells #[.slice A m c, .slice uA n uc] 25))
  by_cases h1 : n < 1
  · have HG := hide (show tallyP (rs.map (·.zs)) us = false by rw [unhide HP]; simp; omega)
    obtain rfl : n = 0 := by omega
    clear HP h1
    go_enter Try.func8, Try.ntmps8
    go_wp2_with fail
    go_ret
    exact ⟨ret_bool (unhide HG).symm, unhide HB0⟩
  have h1' : 1 ≤ n := by omega
  clear h1
  by_cases h8 : 8 < n
  · have HG := hide (show tallyP (rs.map (·.zs)) us = false by rw [unhide HP]; simp; omega)
    clear HP
    go_enter Try.func8, Try.ntmps8
    go_wp2_with fail
    go_ret
    exact ⟨ret_bool (unhide HG).symm, unhide HB0⟩
  have h8' : n ≤ 8 := by omega
  clear h8
  by_cases he : m = n
  rotate_left
  · have HG := hide (show tallyP (rs.map (·.zs)) us = false by rw [unhide HP]; simp [he])
    have e1 : (((m : Nat) : Int) != (n : Nat)) = true := by simp; omega
    have e2 : (m != n) = true := by simp; omega
    clear HP he
    go_enter Try.func8, Try.ntmps8
    go_wp2_with fail
    go_ret
    exact ⟨ret_bool (unhide HG).symm, unhide HB0⟩
  subst he
  have HQ := hide (show tallyP (rs.map (·.zs)) us = (fineP us m && rs.all fun r => fineP r.zs m) by
    rw [unhide HP, decide_eq_true h1', decide_eq_true h8', decide_eq_true rfl]
    simp [List.not_any_eq_all_not])
  clear HP
  obtain ⟨wx, hwx⟩ : ∃ wx, wx = w.alloc (.cells #[.slice A m c, .slice uA m uc] 25) := ⟨_, rfl⟩
  rw [← hwx] at HB0
  have hnew := Blk.new w 25 #[.slice A m c, .slice uA m uc]
  rw [← hwx] at hnew
  have g0 : wx.cell? ⟨w.heap.size, 0, none⟩ = some (.slice A m c) := hnew.cell 0
  have g1 : wx.cell? ⟨w.heap.size, 1, none⟩ = some (.slice uA m uc) := hnew.cell 1
  have HTX := hide ((unhide HT).below (unhide HB0))
  have HUX := hide ((unhide HU).below (unhide HB0))
  have HWX := hide hwx
  clear hnew hwx HT HU
  go_enter Try.func8, Try.ntmps8
  go_wp2_with fail
  rw [← unhide HWX]
  go_loop [4] (fun i => ∃ (k : Nat), k ≤ m + 1 ∧ i = .int .i64 k ∧ Hid (((rs.drop k).all fun r => fineP r.zs m) = rs.all fun r => fineP r.zs m) ∧ Hid (k = m + 1 → fineP us m = true)) (fun i => m + 1 - (intOf i).toNat)
  case atStart => exact ⟨0, Nat.zero_le _, rfl, rfl, fun h => by omega⟩
  case round =>
    obtain ⟨k, hk, rfl, HX, HV⟩ := hrel
    by_cases hle : k ≤ m
    · obtain ⟨r, hrow⟩ : ∃ r : IRw, (k < m → rs[k]? = some r) ∧ (k = m → r = ⟨uA, m, uc, us⟩) ∧ r.ok wx w.heap.size ∧ (k < m → ∃ b o, A = some ⟨b, o, none⟩ ∧ wx.cell? ⟨b, o + k, none⟩ = some (.slice r.A r.n r.c)) := by
        by_cases hlt : k < m
        · obtain ⟨b, o, r, e1, _, e2, e3, e4⟩ := at_tab (unhide HTX) hlt
          exact ⟨r, fun _ => e2, fun h => by omega, e4, fun _ => ⟨b, o, e1, e3⟩⟩
        · exact ⟨_, fun h => absurd h hlt, fun _ => rfl, unhide HUX, fun h => absurd h hlt⟩
      have HROW := hide hrow
      obtain ⟨rA, rn, rc, zs⟩ := r
      have hzl : zs.length = rn := hrow.2.2.1.1
      have hrn : rn ≤ rc := hrow.2.2.1.2.1
      have hrm : rc ≤ maxLen := hrow.2.2.1.2.2.1
      have HRR := hide (show Reads wx w.heap.size 1 rA rn (zs.map (.int .i64)) from hrow.2.2.1.2.2.2)
      have HZL := hide hzl
      have HBAD := hide (show fineP zs m = false → tallyP (rs.map (·.zs)) us = false by
        intro hf
        rw [unhide HQ, ← unhide HX]
        by_cases hlt : k < m
        · rw [drop_cons rs k _ (hrow.1 hlt), List.all_cons, show fineP (IRw.mk rA rn rc zs).zs m = false from hf]
          simp
        · have h := hrow.2.1 (by omega)
          injection h with _ _ _ h
          rw [← h, hf]
          rfl)
      have HGOOD := hide (show fineP zs m = true → ((rs.drop (k + 1)).all fun r => fineP r.zs m) = (rs.all fun r => fineP r.zs m) ∧ (k + 1 = m + 1 → fineP us m = true) by
        intro hf
        refine ⟨?_, fun hkm => ?_⟩
        · rw [← unhide HX]
          by_cases hlt : k < m
          · rw [drop_cons rs k _ (hrow.1 hlt), List.all_cons, show fineP (IRw.mk rA rn rc zs).zs m = true from hf, Bool.true_and]
          · have h := unhide HML
            rw [List.length_map] at h
            rw [List.drop_of_length_le (by omega), List.drop_of_length_le (by omega)]
        · have h := hrow.2.1 (by omega)
          injection h with _ _ _ h
          rw [← h]; exact hf)
      unfold maxLen at hrm
      clear hrow hzl HX HV
      by_cases hln : rn = m
      rotate_left
      · have HG := hide (unhide HBAD (fineP_len (by rw [unhide HZL]; exact hln)))
        have e1 : (((rn : Nat) : Int) != (m : Nat)) = true := by simp; omega
        have e2 : (rn != m) = true := by simp; omega
        clear hln
        by_cases hlt : k < m
        · obtain ⟨b, o, rfl, hc⟩ := (unhide HROW).2.2.2 hlt
          dsimp only at hc
          go_wp2_with fail
          go_ret
          exact ⟨ret_bool (unhide HG).symm, unhide HB0⟩
        · have h := (unhide HROW).2.1 (by omega)
          injection h with h1 h2 h3 h4
          exact absurd h2 (by simpa using e2)
      subst hln
      have HJ : (k < rn → ∃ b o, A = some ⟨b, o, none⟩ ∧ wx.cell? ⟨b, o + k, none⟩ = some (.slice rA rn rc)) := (unhide HROW).2.2.2
      have HK : k = rn → (uA = rA ∧ uc = rc) := fun hkm => by
        have h := (unhide HROW).2.1 hkm
        injection h with h1 h2 h3 h4
        exact ⟨h1.symm, h3.symm⟩
      clear HROW
      by_cases hlt : k < rn
      · obtain ⟨b, o, rfl, hc⟩ := HJ hlt
        clear HJ HK
        go_wp2_with fail
        go_loop [45] (fun i => ∃ (j : Nat), j ≤ rn ∧ i = .int .i64 j ∧ Hid ((zs.drop j).any badN = zs.any badN)) (fun i => rn - (intOf i).toNat)
        case atStart => exact ⟨0, Nat.zero_le _, rfl, rfl⟩
        case round =>
          obtain ⟨j, hj, rfl, HY⟩ := hrel
          by_cases hlj : j < rn
          · obtain ⟨b2, o2, z, rfl, hbl, hz, hcz⟩ := at_num (unhide HRR) hlj
            have HY2 := hide (by have h := unhide HY; rw [drop_cons zs j z hz, List.any_cons] at h; exact h)
            clear HY hz
            by_cases hz0 : z < 0
            · have HG := hide (unhide HBAD (by simp [fineP, ← unhide HY2, badN, hz0]))
              go_wp2_with fail
              go_ret
              exact ⟨ret_bool (unhide HG).symm, unhide HB0⟩
            by_cases hz1 : 1048576 < z
            · have HG := hide (unhide HBAD (by simp [fineP, ← unhide HY2, badN, hz1]))
              have hz0' : 0 ≤ z := by omega
              go_wp2_with fail
              go_ret
              exact ⟨ret_bool (unhide HG).symm, unhide HB0⟩
            have hz0' : 0 ≤ z := by omega
            have hz1' : z ≤ 1048576 := by omega
            have HY3 := hide (show (zs.drop (j + 1)).any badN = zs.any badN by rw [← unhide HY2]; simp [badN, hz0, hz1])
            clear HY2 hz0 hz1
            go_wp2_with fail
            go_round
            case rel => exact ⟨j + 1, by omega, by go_num, unhide HY3⟩
            case measure => simp [intOf]; omega
          · obtain rfl : j = rn := by omega
            have HG2 := hide (unhide HGOOD (by
              have h := unhide HY
              rw [List.drop_of_length_le (by rw [unhide HZL]; exact Nat.le_refl _)] at h
              simp [fineP, unhide HZL, ← h]))
            clear HY
            go_wp2_with fail
            go_round
            case rel => exact ⟨k + 1, by omega, by go_num, (unhide HG2).1, (unhide HG2).2⟩
            case measure => simp [intOf]; omega
      · obtain rfl : k = rn := by omega
        obtain ⟨rfl, rfl⟩ := HK rfl
        clear HJ
        go_wp2_with fail
        go_loop [45] (fun i => ∃ (j : Nat), j ≤ k ∧ i = .int .i64 j ∧ Hid ((zs.drop j).any badN = zs.any badN)) (fun i => k - (intOf i).toNat)
        case atStart => exact ⟨0, Nat.zero_le _, rfl, rfl⟩
        case round =>
          obtain ⟨j, hj, rfl, HY⟩ := hrel
          by_cases hlj : j < k
          · obtain ⟨b2, o2, z, rfl, hbl, hz, hcz⟩ := at_num (unhide HRR) hlj
            have HY2 := hide (by have h := unhide HY; rw [drop_cons zs j z hz, List.any_cons] at h; exact h)
            clear HY hz
            by_cases hz0 : z < 0
            · have HG := hide (unhide HBAD (by simp [fineP, ← unhide HY2, badN, hz0]))
              go_wp2_with fail
              go_ret
              exact ⟨ret_bool (unhide HG).symm, unhide HB0⟩
            by_cases hz1 : 1048576 < z
            · have HG := hide (unhide HBAD (by simp [fineP, ← unhide HY2, badN, hz1]))
              have hz0' : 0 ≤ z := by omega
              go_wp2_with fail
              go_ret
              exact ⟨ret_bool (unhide HG).symm, unhide HB0⟩
            have hz0' : 0 ≤ z := by omega
            have hz1' : z ≤ 1048576 := by omega
            have HY3 := hide (show (zs.drop (j + 1)).any badN = zs.any badN by rw [← unhide HY2]; simp [badN, hz0, hz1])
            clear HY2 hz0 hz1
            go_wp2_with fail
            go_round
            case rel => exact ⟨j + 1, by omega, by go_num, unhide HY3⟩
            case measure => simp [intOf]; omega
          · obtain rfl : j = k := by omega
            have HG2 := hide (unhide HGOOD (by
              have h := unhide HY
              rw [List.drop_of_length_le (by rw [unhide HZL]; exact Nat.le_refl _)] at h
              simp [fineP, unhide HZL, ← h]))
            clear HY
            go_wp2_with fail
            go_round
            case rel => exact ⟨j + 1, by omega, by go_num, (unhide HG2).1, fun _ => (unhide HG2).2 trivial⟩
            case measure => simp [intOf] <;> omega
    · obtain rfl : k = m + 1 := by omega
      have HG := hide (show tallyP (rs.map (·.zs)) us = true by
        have h := unhide HX
        rw [List.drop_of_length_le (by have h := unhide HML; rw [List.length_map] at h; omega)] at h
        rw [unhide HQ, ← h, unhide HV rfl]
        rfl)
      clear HX HV
      go_wp2_with fail
      go_ret
      exact ⟨ret_bool (unhide HG).symm, unhide HB0⟩

theorem walk_TallyMays (t : Tly) (w : World) (ht : t.ok w w.heap.size) :
    Calls Try.prog 3 #[t.val] w fun e w' => e = .returned (.bool true) ∧ Below w.heap.size w w' := by
  have HT := hide ht
  obtain ⟨A, m, c, rs, ⟨uA, n, uc, us⟩⟩ := t
  unfold Tly.val
  dsimp only
  obtain ⟨wx, hwx⟩ : ∃ wx, wx = w.alloc (.cells #[.slice A m c, .slice uA n uc] 25) := ⟨_, rfl⟩
  have hbx : Below w.heap.size w wx := by rw [hwx]; exact (Below.refl _ _).alloc (Nat.le_refl _) _
  have hnew := Blk.new w 25 #[.slice A m c, .slice uA n uc]
  rw [← hwx] at hnew
  have g0 : ∀ n : Ext wx, n.W.cell? ⟨w.heap.size, 0, none⟩ = some (.slice A m c) := fun n => n.cell (hnew.cell 0)
  have g1 : ∀ k : Ext wx, k.W.cell? ⟨w.heap.size, 1, none⟩ = some (.slice uA n uc) := fun n => n.cell (hnew.cell 1)
  have HNB := hide (fun n : Ext wx => (show Below w.heap.size w n.W from hbx.trans (n.h.mono hbx.size)))
  have hs := hbx.size
  have H1 := hide (fun n : Ext wx => tallyMay_any ⟨A, m, c, rs, ⟨uA, _, uc, us⟩⟩ w.heap.size n.W (ht.below (unhide HNB n)) (unhide HNB n).size)
  have H2 := hide (fun n : Ext wx => tallyMay_ref ⟨A, m, c, rs, ⟨uA, _, uc, us⟩⟩ w.heap.size n.W (ht.below (unhide HNB n)) (unhide HNB n).size)
  obtain ⟨b, hb⟩ : ∃ b, tallyP (Tly.mv ⟨A, m, c, rs, ⟨uA, n, uc, us⟩⟩) us = b := ⟨_, rfl⟩
  have H1' := hide (show ∀ n' : Ext wx, Calls Try.prog 7 #[.agg #[.slice A m c, .slice uA n uc]] n'.W fun e w' => e = .returned (.bool b) ∧ Below n'.W.heap.size n'.W w' from fun n' => by have h := unhide H1 n'; rw [hb] at h; exact h)
  have H2' := hide (show ∀ n' : Ext wx, Calls Try.prog 8 #[.agg #[.slice A m c, .slice uA n uc]] n'.W fun e w' => e = .returned (.bool b) ∧ Below n'.W.heap.size n'.W w' from fun n' => by have h := unhide H2 n'; rw [hb] at h; exact h)
  have HWX := hide hwx
  clear hwx hbx hnew H1 H2 hb ht HT
  go_enter Try.func3, Try.ntmps3
  go_wp2_with fail
  rw [← unhide HWX]
  refine wp_region_calm (by kernel_rfl) (by kernel_rfl) ?_
  repeat (go_big_quiet_step ((first | (go_at_call 7; exact calm_call (unhide H1' _)) | (go_at_call 8; exact calm_call (unhide H2' _)))))
  refine wpQuiet_nil ?_
  rintro _ ⟨nq, rfl⟩
  go_wp2_with fail
  go_ret
  exact ⟨by simp, unhide HNB nq⟩
end Go.Proofs.Ytjhgnblakmhncaa
