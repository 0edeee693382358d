/- Contracts of math/bits.TrailingZeros, of lab.Members and of the reference's LabMembers. Conditions: none beyond what each theorem states. -/
import Derived.Test.YtcmkcgegdclllaaDoorMembA
import Derived.Test.YtcmkcgegdclllaaDoorTz
import Derived.Test.YtcmkcgegdclllaaDoorIntRow
import Derived.Test.YtcmkcgegdclllaaDoorOwnG
namespace Go.Proofs.YtcmkcgegdclllaaDoor
open Go.RowKit
set_option linter.unusedVariables false

/-- the table of math/bits reads as it was laid -/
def TabB (w : World) : Prop := ∀ k n : Nat, bruijnTab[k]? = some n → w.cell? ⟨2, k, none⟩ = some (.int .u8 ((n : Nat) : Int))
set_option maxRecDepth 100000 in
theorem bruijn_lt : ∀ x : Fin 256, x.val ≠ 0 → bruijnAt x.val < 64 ∧ lowB x.val < 8 := by decide +kernel
set_option maxRecDepth 100000 in
theorem ctz_low : ∀ x : Fin 256, x.val ≠ 0 → Lib.ctz 64 x.val = lowB x.val := by decide +kernel
theorem tab_len : Lib.deBruijn64tab = bruijnTab := by decide +kernel
theorem trailing_any (x : Nat) (w : World) (h0 : 0 < x) (h1 : x ≤ 255) (hT : TabB w) :
    Calls Tryd.prog 14 #[.int .u64 x] w fun e w' => e = .returned (.int .i64 (lowB x)) ∧ w = w' := by
  have h := Any7.bits_TrailingZeros Tryd.lays27 x (by omega) w (fun _ j hj => by
    rw [tab_len] at hj ⊢
    exact hT j _ (by rw [List.getD_eq_getElem?_getD, List.getElem?_eq_getElem hj]; rfl))
  rw [ctz_low ⟨x, by omega⟩ (by simp; omega)] at h
  exact h.mono fun e w' ⟨he, hw⟩ => ⟨he, hw.symm⟩
/-- what Members answers -/
def membP (s : Int) : List Int × Int := if mayB s then (memL s.toNat, 0) else ([], 2)
theorem memL_len (x : Nat) : (memL x).length ≤ 8 := by
  unfold memL
  rw [List.length_map]
  exact Nat.le_trans (List.length_filter_le _ _) (by simp)
theorem u64_and_pred (x : Nat) (h0 : 0 < x) (h1 : x ≤ 255) : bits BinOp.and IntKind.u64 (x : Int) ((x : Int) - 1) = ((x &&& (x - 1) : Nat) : Int) := by
  rw [show (x : Int) - 1 = ((x - 1 : Nat) : Int) by omega, u64_and_nat x _ (by omega) (by omega)]
def MembPost (r : List Int × Int) (w : World) (e : Ending) (w' : World) : Prop :=
  ∃ v, e = .returned (.tuple #[v, .int .i64 r.2]) ∧ w'.ownsRow w.heap.size 3 1 v r.1.length (r.1.map (.int .i64)) ∧ Below w.heap.size w w'
set_option maxRecDepth 100000 in
set_option maxHeartbeats 4000000 in
theorem members_any (s : Int) (w : World) (hs : s ≤ 9223372036854775807) (hT : TabB w) (hg : 2 < w.heap.size) :
    Calls Tryd.prog 6 #[.int .i64 s] w (MembPost (membP s) w) := by
  obtain ⟨i0, hi, hz0, hz1, hz2⟩ := int_info
  have HM := hide (labMay_any s hs)
  cases hm : mayB s
  · have HP := hide (show membP s = ([], 2) by unfold membP; rw [hm]; rfl)
    rw [hm] at HM
    clear hm
    go_enter Tryd.func6, Tryd.ntmps6
    go_wp2_with fail
    refine (unhide HM _).mono ?_
    rintro _ _ ⟨rfl, rfl⟩
    go_wp2_with fail
    go_ret2
    rw [unhide HP]
    exact ⟨_, rfl, World.ownsRow_nil _ _ _ _, Below.refl _ _⟩
  · have HP := hide (show membP s = (memL s.toNat, 0) by unfold membP; rw [hm]; rfl)
    rw [hm] at HM
    have hs2 : 0 ≤ s ∧ s ≤ 255 := by unfold mayB at hm; simpa using hm
    obtain ⟨s, rfl⟩ := Int.eq_ofNat_of_zero_le hs2.1
    have hs255 : s ≤ 255 := by omega
    have HT := hide (fun (W : World) (hW : Below w.heap.size w W) => show TabB W from fun k n hk => (hW.cell (p := ⟨2, k, none⟩) hg).trans (hT k n hk))
    rw [Int.toNat_natCast] at HP
    clear hm hs2 hT hs hg
    go_enter Tryd.func6, Tryd.ntmps6
    go_wp2_with fail
    refine (unhide HM _).mono ?_
    rintro _ _ ⟨rfl, rfl⟩
    go_wp2_with fail
    go_loopw [4, 5] (fun v x W => ∃ (q k : Nat) (l : List Int), q ≤ 255 ∧ k ≤ 8 ∧ x = .int .u64 q ∧ Hid (l.length = k) ∧ Hid (memL s = l ++ memL q) ∧ Hid (W.ownsRow w.heap.size 3 1 v k (l.map (.int .i64))) ∧ Below w.heap.size w W) (fun _ x _ => (intOf x).toNat)
    case atStart => exact ⟨s, 0, [], hs255, by omega, rfl, hide rfl, hide rfl, World.ownsRow_nil _ _ _ _, Below.refl _ _⟩
    case round =>
      obtain ⟨q, k, l, hq, hk, rfl, HL, HE, HO, hz⟩ := hrel
      by_cases hq0 : q = 0
      · subst hq0
        have HR := hide (show memL s = l by rw [unhide HE, memL_zero, List.append_nil])
        go_wp2_with fail
        go_ret2
        rw [unhide HP]
        refine ⟨_, rfl, ?_, hz⟩
        dsimp only
        rw [unhide HR, unhide HL]
        exact unhide HO
      · have hq1 : 0 < q := by omega
        have hqn : ((q : Int) != 0) = true := by simp; omega
        have hst := memL_step q hq hq0
        have hlt := and_pred_lt q hq0
        have hk8 : k < 8 := by
          have h1 := congrArg List.length (unhide HE)
          rw [List.length_append, unhide HL, hst, List.length_cons] at h1
          have := memL_len s
          omega
        have HST := hide (show memL s = (l ++ [((lowB q : Nat) : Int)]) ++ memL (q &&& (q - 1)) by rw [unhide HE, hst, List.append_assoc]; rfl)
        have HTR := hide (trailing_any q wr hq1 hq (unhide HT wr hz))
        have hap := u64_and_pred q hq1 hq
        generalize lowB q = y at HST HTR
        generalize q &&& (q - 1) = q' at HST hlt hap
        have hmq : (k + 1) * 8 ≤ 140737488355328 := by omega
        have HMQ := hide hmq
        have hsz := hz.size
        clear hst hq0 hmq
        go_wp2_with (first
          | (go_at_call 14; refine (unhide HTR).mono ?_; rintro _ _ ⟨rfl, rfl⟩)
          | (at_builtin; (refine wpList_append_new _ rfl (.tmp 17) (.tmp 20) _ rfl w.heap.size 3 i0 _ 1 8 Tryd.underlying22 hi hz0 hz1 hz2 rfl (by omega) (by omega) _ k _ (unhide HO) rfl _ 1 _ rfl rfl rfl (by simp [Value.oneCell']) (unhide HMQ) hsz ?_); intro g4 cap4 w4 hg4 hown4 hbel4 hgr4 hat4
             have HO4 := hide hown4
             have HB4 := hide (hbel4 w.heap.size w (Nat.le_refl _) hz)
             clear hg4 hown4 hbel4 hgr4 hat4))
        go_roundw
        case rel => exact ⟨q', k + 1, l ++ [((y : Nat) : Int)], by omega, by omega, rfl, hide (by rw [List.length_append, unhide HL]; rfl), HST, hide (by have h := unhide HO4; simpa using h), unhide HB4⟩
        case measure => simp [intOf]; omega
theorem memTo_len (x k : Nat) : (memTo x k).length ≤ k := by
  unfold memTo
  rw [List.length_map]
  exact Nat.le_trans (List.length_filter_le _ _) (by simp)
set_option maxRecDepth 100000 in
set_option maxHeartbeats 4000000 in
theorem refMembers_any (s : Int) (w : World) :
    Calls Tryd.prog 7 #[.int .i64 s] w (MembPost (membP s) w) := by
  obtain ⟨i0, hi, hz0, hz1, hz2⟩ := int_info
  have HM := hide (labMay_ref s)
  cases hm : mayB s
  · have HP := hide (show membP s = ([], 2) by unfold membP; rw [hm]; rfl)
    rw [hm] at HM
    clear hm
    go_enter Tryd.func7, Tryd.ntmps7
    go_wp2_with fail
    refine (unhide HM _).mono ?_
    rintro _ _ ⟨rfl, rfl⟩
    go_wp2_with fail
    go_ret2
    rw [unhide HP]
    exact ⟨_, rfl, World.ownsRow_nil _ _ _ _, Below.refl _ _⟩
  · have HP := hide (show membP s = (memTo s.toNat 8, 0) by unfold membP; rw [hm]; rfl)
    rw [hm] at HM
    have hs2 : 0 ≤ s ∧ s ≤ 255 := by unfold mayB at hm; simpa using hm
    obtain ⟨s, rfl⟩ := Int.eq_ofNat_of_zero_le hs2.1
    have hs255 : s ≤ 255 := by omega
    rw [Int.toNat_natCast] at HP
    clear hm hs2
    go_enter Tryd.func7, Tryd.ntmps7
    go_wp2_with fail
    refine (unhide HM _).mono ?_
    rintro _ _ ⟨rfl, rfl⟩
    go_wp2_with fail
    go_loopw [4, 5] (fun v x W => ∃ (j k : Nat), j ≤ 8 ∧ k ≤ 8 ∧ x = .int .i64 j ∧ Hid ((memTo s j).length = k) ∧ Hid (W.ownsRow w.heap.size 3 1 v k ((memTo s j).map (.int .i64))) ∧ Below w.heap.size w W) (fun _ x _ => 8 - (intOf x).toNat)
    case atStart => exact ⟨0, 0, by omega, by omega, rfl, hide rfl, World.ownsRow_nil _ _ _ _, Below.refl _ _⟩
    case round =>
      obtain ⟨j, k, hj, hk, rfl, HL, HO, hz⟩ := hrel
      by_cases hj8 : j < 8
      · have HR := hide (fun W => labReads_any s j hs255 (by omega) W)
        have HS := hide (memTo_succ s j)
        have hkj : k ≤ j := by have := memTo_len s j; have := unhide HL; omega
        cases hb : s.testBit j
        · rw [hb] at HR HS
          clear hb
          rw [if_neg (by simp), List.append_nil] at HS
          go_wp2_with fail
          refine (unhide HR _).mono ?_
          rintro _ _ ⟨rfl, rfl⟩
          go_wp2_with fail
          go_roundw
          case rel => exact ⟨j + 1, k, by omega, by omega, by go_num, hide (by rw [unhide HS]; exact unhide HL), hide (by rw [unhide HS]; exact unhide HO), hz⟩
          case measure => simp [intOf]; omega
        · rw [hb] at HR HS
          clear hb
          rw [if_pos rfl] at HS
          have hmq : (k + 1) * 8 ≤ 140737488355328 := by omega
          have HMQ := hide hmq
          have hsz := hz.size
          clear hmq
          go_wp2_with (first
            | (go_at_call 16; refine (unhide HR _).mono ?_; rintro _ _ ⟨rfl, rfl⟩)
            | (at_builtin; (refine wpList_append_new _ rfl (.tmp 16) (.tmp 18) _ rfl w.heap.size 3 i0 _ 1 8 Tryd.underlying22 hi hz0 hz1 hz2 rfl (by omega) (by omega) _ k _ (unhide HO) rfl _ 1 _ rfl rfl rfl (by simp [Value.oneCell']) (unhide HMQ) hsz ?_); intro g4 cap4 w4 hg4 hown4 hbel4 hgr4 hat4
               have HO4 := hide hown4
               have HB4 := hide (hbel4 w.heap.size w (Nat.le_refl _) hz)
               clear hg4 hown4 hbel4 hgr4 hat4))
          go_roundw
          case rel => exact ⟨j + 1, k + 1, by omega, by omega, by go_num, hide (by rw [unhide HS, List.length_append, unhide HL]; rfl), hide (by have h := unhide HO4; rw [unhide HS, List.map_append]; exact h), unhide HB4⟩
          case measure => simp [intOf]; omega
      · obtain rfl : j = 8 := by omega
        go_wp2_with fail
        go_ret2
        rw [unhide HP]
        refine ⟨_, rfl, ?_, hz⟩
        dsimp only
        rw [unhide HL]
        exact unhide HO
theorem TabB.lt {w : World} (h : TabB w) : 2 < w.heap.size := by
  have hc := h 0 0 rfl
  refine Nat.not_le.1 fun hn => ?_
  have : w.heap[2]? = none := Array.getElem?_eq_none hn
  unfold World.cell? at hc
  simp [this] at hc
set_option maxHeartbeats 2000000 in
theorem walk_LabMembers (s : Int) (w : World) (hw : (Lit.int .i64 s).wf = true) (hT : TabB w) :
    Calls Tryd.prog 3 #[.int .i64 s] w fun e w' => e = .returned (.bool true) ∧ Below w.heap.size w w' := by
  have H1 := hide (members_any s w (wf_i64_bounds hw).2 hT hT.lt)
  have H2 := hide (fun W => refMembers_any s W)
  unfold MembPost at H1 H2
  have hlen : (membP s).1.length ≤ 8 := by
    unfold membP
    split
    · exact memL_len _
    · simp
  generalize membP s = R at *
  obtain ⟨rl, rc⟩ := R
  dsimp only at H1 H2 hlen
  have HLEN := hide hlen
  clear hT hlen hw
  go_enter Tryd.func3, Tryd.ntmps3
  go_wp2_with fail
  refine (unhide H1).mono ?_
  rintro _ w2 ⟨v2, rfl, ho2, hb2⟩
  have HO2 := hide ho2
  have HB2 := hide hb2
  clear ho2 hb2
  go_wp2_with fail
  refine (unhide H2 w2).mono ?_
  rintro _ w3 ⟨v3, rfl, ho3, hb3⟩
  have HB3 := hide ((unhide HB2).trans (hb3.mono (unhide HB2).size))
  obtain ⟨A2, c2, rfl, _⟩ := own_slice (unhide HO2)
  obtain ⟨A3, c3, rfl, _⟩ := own_slice ho3
  have HSB := hide (sameInts_row A2 A3 rl.length c2 c3 rl w3.heap.size w3 rfl (by have := unhide HLEN; omega) (Reads.of_own (own_below' (unhide HO2) hb3)) (Reads.of_own ho3))
  clear ho3 hb3
  go_wp2_with fail
  refine (unhide HSB).mono ?_
  rintro _ w4 ⟨rfl, nq, rfl⟩
  have HB4 := hide (below_drewN (unhide HB3) nq)
  go_wp2_with fail
  go_ret
  exact ⟨rfl, unhide HB4⟩
end Go.Proofs.YtcmkcgegdclllaaDoor
