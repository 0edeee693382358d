/- Contract of the reference's EntriesMay. Conditions: none beyond what the theorem states. -/
import Derived.Test.YtbkciniikahjhaaRegB
namespace Go.Proofs.Ytbkciniikahjhaa
open Go.RowKit
set_option linter.unusedVariables false

def ents4 (e : Ent) : List Int := [e.key, e.value, e.time, e.who]
theorem oneP_big (e : Ent) (k : Nat) (z : Int) (h : (ents4 e)[k]? = some z) (hz : z < 0 ∨ 1048576 < z) : oneP e = false := by
  match k with
  | 0 => simp [ents4] at h; subst h; simp [oneP, inP]; omega
  | 1 => simp [ents4] at h; subst h; simp [oneP, inP]; omega
  | 2 => simp [ents4] at h; subst h; simp [oneP, inP]; omega
  | 3 => simp [ents4] at h; subst h; simp [oneP, inP]; omega
  | k + 4 => simp [ents4] at h
theorem ents4_all (e : Ent) (h : ∀ (k : Nat) (z : Int), (ents4 e)[k]? = some z → 0 ≤ z ∧ z ≤ 1048576) : (0 ≤ e.key ∧ e.key ≤ 1048576) ∧ (0 ≤ e.value ∧ e.value ≤ 1048576) ∧ (0 ≤ e.time ∧ e.time ≤ 1048576) ∧ 0 ≤ e.who ∧ e.who ≤ 1048576 :=
  ⟨h 0 _ rfl, h 1 _ rfl, h 2 _ rfl, h 3 _ rfl⟩

set_option maxHeartbeats 1600000 in
theorem entriesMay_any (A : Option Addr) (n c : Nat) (l : List Ent) (B : Nat) (w : World) (hl : l.length = n) (hm : n ≤ maxLen) (hr : Reads w B 5 A n (l.flatMap entCells)) (hB : B ≤ w.heap.size) :
    Calls Try.prog 42 #[.slice A n c] w fun e w' => e = .returned (.bool (mayP l)) ∧ Below w.heap.size w w' := by
  have HR := hide (hr.more hB)
  have HL := hide hl
  unfold maxLen at hm
  clear hr hl
  by_cases h8 : 8 < n
  · have HG := hide (show mayP l = false by unfold mayP; rw [unhide HL]; simp; omega)
    go_enter Try.func42, Try.ntmps42
    go_wp2_with fail
    go_ret
    exact ⟨ret_bool (unhide HG).symm, Below.refl _ _⟩
  have h8' : n ≤ 8 := by omega
  clear h8 hm
  go_enter Try.func42, Try.ntmps42
  go_wp2_with fail
  go_loopw [12] (fun i wr => ∃ (k : Nat), k ≤ n ∧ i = .int .i64 k ∧ Below w.heap.size w wr ∧ Hid (entsGo (l.drop k) (prevKey l k) = entsGo l none)) (fun i _ => n - (intOf i).toNat)
  case atStart => exact ⟨0, Nat.zero_le _, rfl, Below.refl _ _, rfl⟩
  case round =>
    obtain ⟨k, hk, rfl, hb, HI⟩ := hrel
    by_cases hlt : k < n
    · obtain ⟨b, o, e, rfl, hbl, he, hc⟩ := at_row entCells_len (by omega) ((unhide HR).below hb) hlt (unhide HL)
      have c0 : wr.cell? ⟨b, o + k * 5, none⟩ = some (.int .i64 e.key) := hc 0 _ rfl
      have c1 : wr.cell? ⟨b, o + k * 5 + 1, none⟩ = some (.int .i64 e.value) := hc 1 _ rfl
      have c2 : wr.cell? ⟨b, o + k * 5 + 2, none⟩ = some (.int .i64 e.time) := hc 2 _ rfl
      have c3 : wr.cell? ⟨b, o + k * 5 + 3, none⟩ = some (.int .i64 e.who) := hc 3 _ rfl
      have c4 : wr.cell? ⟨b, o + k * 5 + 4, none⟩ = some (.bool e.gone) := hc 4 _ rfl
      have HI2 := hide (by have h := unhide HI; rw [drop_cons l k e he, entsGo] at h; exact h)
      have HE := hide he
      have hsz := hb.size
      have hbl' : b < wr.heap.size := by omega
      clear HI hc he
      go_wp2_with fail
      obtain ⟨wz, hwz⟩ : ∃ wz, wz = (wr.alloc (.cells #[.int .i64 e.key, .int .i64 e.value, .int .i64 e.time, .int .i64 e.who, .bool e.gone] 65)).alloc (.cells #[.int .i64 e.key, .int .i64 e.value, .int .i64 e.time, .int .i64 e.who] 3) := ⟨_, rfl⟩
      have hn1 := (Blk.new wr 65 #[.int .i64 e.key, .int .i64 e.value, .int .i64 e.time, .int .i64 e.who, .bool e.gone]).alloc (.cells #[.int .i64 e.key, .int .i64 e.value, .int .i64 e.time, .int .i64 e.who] 3)
      have hn2 := Blk.new (wr.alloc (.cells #[.int .i64 e.key, .int .i64 e.value, .int .i64 e.time, .int .i64 e.who, .bool e.gone] 65)) 3 #[.int .i64 e.key, .int .i64 e.value, .int .i64 e.time, .int .i64 e.who]
      rw [← hwz] at hn1 hn2
      have hs1 : (wr.alloc (.cells #[.int .i64 e.key, .int .i64 e.value, .int .i64 e.time, .int .i64 e.who, .bool e.gone] 65)).heap.size = wr.heap.size + 1 := by simp
      rw [hs1] at hn2
      have HR4 := hide (show Reads wz (wr.heap.size + 2) 1 (some ⟨wr.heap.size + 1, 0, none⟩) 4 ((ents4 e).map (.int .i64)) from reads_of_blk (cs := (ents4 e).map (.int .i64)) hn2 (by omega))
      have HBZ := hide (show Below w.heap.size w wz by rw [hwz]; exact (hb.alloc hsz _).alloc (by simp; omega) _)
      have g0 := hn1.cell 0
      have g1 := hn1.cell 1
      have g2 := hn1.cell 2
      have g3 := hn1.cell 3
      have g4 := hn1.cell 4
      simp at g0 g1 g2 g3 g4
      have HWZ := hide hwz
      clear hn1 hn2 hs1 hwz c0 c1 c2 c3 c4
      rw [← unhide HWZ]
      clear HWZ
      go_loop [27] (fun i => ∃ (m : Nat), m ≤ 4 ∧ i = .int .i64 m ∧ Hid (∀ (j : Nat) (z : Int), j < m → (ents4 e)[j]? = some z → 0 ≤ z ∧ z ≤ 1048576)) (fun i => 4 - (intOf i).toNat)
      case atStart => exact ⟨0, Nat.zero_le _, rfl, fun j z hj => by omega⟩
      case round =>
        obtain ⟨m, hm4, rfl, HM⟩ := hrel
        by_cases hlt4 : m < 4
        · obtain ⟨bz, oz, z, hAz, _, hz, hcz⟩ := at_num (unhide HR4) hlt4
          injection hAz with hAz
          injection hAz with hAz1 hAz2
          subst hAz1 hAz2
          have HZ := hide hz
          have e0 : 0 + m = m := by omega
          rw [e0] at hcz
          clear hz e0
          by_cases hz0 : z < 0
          · skip
            have HG := hide (show mayP l = false by
              have h := unhide HI2
              rw [show oneP e = false by exact oneP_big e m z (unhide HZ) (.inl hz0)] at h
              unfold mayP
              rw [← h]
              rfl)
            go_wp2_with fail
            go_ret
            exact ⟨ret_bool (unhide HG).symm, unhide HBZ⟩
          by_cases hz1 : 1048576 < z
          · skip
            have HG := hide (show mayP l = false by
              have h := unhide HI2
              rw [show oneP e = false by exact oneP_big e m z (unhide HZ) (.inr hz1)] at h
              unfold mayP
              rw [← h]
              rfl)
            have hz0' : 0 ≤ z := by omega
            clear hz0
            go_wp2_with fail
            go_ret
            exact ⟨ret_bool (unhide HG).symm, unhide HBZ⟩
          have hz0' : 0 ≤ z := by omega
          have hz1' : z ≤ 1048576 := by omega
          have HM2 := hide (show ∀ (j : Nat) (y : Int), j < m + 1 → (ents4 e)[j]? = some y → 0 ≤ y ∧ y ≤ 1048576 from fun j y hj hy => by
            rcases Nat.lt_or_eq_of_le (Nat.le_of_lt_succ hj) with h | h
            · exact unhide HM j y h hy
            · subst h; have := unhide HZ; rw [hy] at this; injection this with this; subst this; exact ⟨hz0', hz1'⟩)
          clear hz0 hz1
          go_wp2_with fail
          go_round
          case rel => exact ⟨m + 1, by omega, by go_num, unhide HM2⟩
          case measure => simp [intOf]; omega
        · obtain rfl : m = 4 := by omega
          have hb4 := ents4_all e (fun j z hz => unhide HM j z (by
            rcases Nat.lt_or_ge j 4 with h | h
            · exact h
            · rw [List.getElem?_eq_none (by simpa [ents4] using h)] at hz; cases hz) hz)
          have HB4 := hide hb4
          have hv0 := hb4.2.1.1
          have hw0 := hb4.2.2.2.1
          clear hb4 HM hm4 hlt4
          by_cases hw7 : 7 < e.who
          · skip
            have HG := hide (show mayP l = false by
              have h := unhide HI2
              rw [show oneP e = false by simp [oneP, inP]; omega] at h
              unfold mayP
              rw [← h]
              rfl)
            go_wp2_with fail
            go_quiet (fail)
            go_wp2_with fail
            go_ret
            exact ⟨ret_bool (unhide HG).symm, below_drewN (unhide HBZ) nq⟩
          have hw7' : e.who ≤ 7 := by omega
          have hd7 : decide (7 < e.who) = false := by simp; omega
          clear hw7
          cases hgo : e.gone with
          | true =>
            rw [hgo] at g4
            by_cases hv : e.value = 0
            · have HONE := hide (show oneP e = true by
                have h := unhide HB4
                simp only [oneP, inP, hgo, hv, Bool.and_eq_true, decide_eq_true_eq]
                simp
                omega)
              rw [hv] at g1
              clear hv hv0 hw0
              by_cases hk0 : 0 < k
              · obtain ⟨j, rfl⟩ : ∃ j, k = j + 1 := ⟨k - 1, by omega⟩
                obtain ⟨b', o', d, hA, _, hd, hcd⟩ := at_row entCells_len (by omega) ((unhide HR).below (unhide HBZ)) (show j < n by omega) (unhide HL)
                have d0 : wz.cell? ⟨b, o + j * 5, none⟩ = some (.int .i64 d.key) := by
                  injection hA with hA
                  injection hA with hA1 hA2
                  subst hA1 hA2
                  exact hcd 0 _ rfl
                have HD := hide (prevKey_succ l j d hd)
                clear hcd hA hd hk0
                have hj0 : (0 : Int) < ((j + 1 : Nat) : Int) := by omega
                have hj1 : (j : Int) < (n : Int) := by omega
                by_cases hlt2 : d.key < e.key
                · have HI3 := hide (show entsGo (l.drop (j + 1 + 1)) (prevKey l (j + 1 + 1)) = entsGo l none by
                    have h := unhide HI2
                    rw [unhide HD, unhide HONE] at h
                    rw [prevKey_succ l (j + 1) e (unhide HE), ← h]
                    simp [above, hlt2])
                  clear HI2
                  go_wp2_with fail
                  go_quiet (fail)
                  go_wp2_with fail
                  go_roundw
                  case rel => exact ⟨j + 1 + 1, by omega, by go_num, below_drewN (unhide HBZ) nq, unhide HI3⟩
                  case measure => simp [intOf]; omega
                · have HG := hide (show mayP l = false by
                    have h := unhide HI2
                    rw [unhide HD] at h
                    unfold mayP
                    rw [← h]
                    simp [above, hlt2])
                  have hge : e.key ≤ d.key := by omega
                  clear HI2 hlt2
                  go_wp2_with fail
                  go_quiet (fail)
                  go_wp2_with fail
                  go_ret
                  exact ⟨ret_bool (unhide HG).symm, below_drewN (unhide HBZ) nq⟩
              · obtain rfl : k = 0 := by omega
                have HI3 := hide (show entsGo (l.drop (0 + 1)) (prevKey l (0 + 1)) = entsGo l none by
                  have h := unhide HI2
                  rw [unhide HONE] at h
                  rw [prevKey_succ l 0 e (unhide HE), ← h]
                  simp [prevKey, above])
                clear HI2 hk0
                go_wp2_with fail
                go_quiet (fail)
                go_wp2_with fail
                go_roundw
                case rel => exact ⟨0 + 1, by omega, by go_num, below_drewN (unhide HBZ) nq, unhide HI3⟩
                case measure => simp [intOf]; omega
            · have hv1 : (e.value == 0) = false := by simp; exact hv
              have hv2 : decide (e.value = 0) = false := by simp; exact hv
              have hv3 : (e.value != 0) = true := by simp; exact hv
              have HG := hide (show mayP l = false by
                have h := unhide HI2
                rw [show oneP e = false by have hpos : 0 < e.value := (by omega); simp [oneP, hgo, hpos]] at h
                unfold mayP
                rw [← h]
                rfl)
              go_wp2_with fail
              go_quiet (fail)
              go_wp2_with fail
              go_ret
              exact ⟨ret_bool (unhide HG).symm, below_drewN (unhide HBZ) nq⟩
          | false =>
            rw [hgo] at g4
            have HONE := hide (show oneP e = true by
              have h := unhide HB4
              simp only [oneP, inP, hgo, Bool.and_eq_true, decide_eq_true_eq]
              simp
              omega)
            by_cases hk0 : 0 < k
            · obtain ⟨j, rfl⟩ : ∃ j, k = j + 1 := ⟨k - 1, by omega⟩
              obtain ⟨b', o', d, hA, _, hd, hcd⟩ := at_row entCells_len (by omega) ((unhide HR).below (unhide HBZ)) (show j < n by omega) (unhide HL)
              have d0 : wz.cell? ⟨b, o + j * 5, none⟩ = some (.int .i64 d.key) := by
                injection hA with hA
                injection hA with hA1 hA2
                subst hA1 hA2
                exact hcd 0 _ rfl
              have HD := hide (prevKey_succ l j d hd)
              clear hcd hA hd hk0
              have hj0 : (0 : Int) < ((j + 1 : Nat) : Int) := by omega
              have hj1 : (j : Int) < (n : Int) := by omega
              by_cases hlt2 : d.key < e.key
              · have HI3 := hide (show entsGo (l.drop (j + 1 + 1)) (prevKey l (j + 1 + 1)) = entsGo l none by
                  have h := unhide HI2
                  rw [unhide HD, unhide HONE] at h
                  rw [prevKey_succ l (j + 1) e (unhide HE), ← h]
                  simp [above, hlt2])
                clear HI2
                go_wp2_with fail
                go_quiet (fail)
                go_wp2_with fail
                go_roundw
                case rel => exact ⟨j + 1 + 1, by omega, by go_num, below_drewN (unhide HBZ) nq, unhide HI3⟩
                case measure => simp [intOf]; omega
              · have HG := hide (show mayP l = false by
                  have h := unhide HI2
                  rw [unhide HD] at h
                  unfold mayP
                  rw [← h]
                  simp [above, hlt2])
                have hge : e.key ≤ d.key := by omega
                clear HI2 hlt2
                go_wp2_with fail
                go_quiet (fail)
                go_wp2_with fail
                go_ret
                exact ⟨ret_bool (unhide HG).symm, below_drewN (unhide HBZ) nq⟩
            · obtain rfl : k = 0 := by omega
              have HI3 := hide (show entsGo (l.drop (0 + 1)) (prevKey l (0 + 1)) = entsGo l none by
                have h := unhide HI2
                rw [unhide HONE] at h
                rw [prevKey_succ l 0 e (unhide HE), ← h]
                simp [prevKey, above])
              clear HI2 hk0
              go_wp2_with fail
              go_quiet (fail)
              go_wp2_with fail
              go_roundw
              case rel => exact ⟨0 + 1, by omega, by go_num, below_drewN (unhide HBZ) nq, unhide HI3⟩
              case measure => simp [intOf]; omega
    · obtain rfl : k = n := by omega
      have HG := hide (show mayP l = true by
        have h := unhide HI
        rw [List.drop_of_length_le (by rw [unhide HL]; exact Nat.le_refl _), entsGo] at h
        unfold mayP
        rw [← h, unhide HL, Bool.true_and]
        exact decide_eq_true h8')
      have HB := hide hb
      clear HI hb
      go_wp2_with fail
      go_ret
      exact ⟨ret_bool (unhide HG).symm, unhide HB⟩
end Go.Proofs.Ytbkciniikahjhaa
