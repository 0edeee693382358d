/- Contract of share.Split. Conditions: none beyond what the theorem states. -/
import Derived.Test.YtiljallignlbgaaShareA
import Derived.Deep.Onto
namespace Go.Proofs.Ytiljallignlbgaa
open Go.RowKit
set_option linter.unusedVariables false

def SplitPost (base : Nat) (r : List Int × Int) (e : Ending) (w w' : World) : Prop :=
  ∃ v : Value, e = .returned (.tuple #[v, .int .i64 r.2]) ∧ w'.ownsRow base 3 1 v r.1.length (r.1.map (.int .i64)) ∧ Below w.heap.size w w'
/-- the world with the two boxed parameters -/
def boxW (w : World) (total : Int) (A : Option Addr) (n c : Nat) : World := (w.alloc (.cells #[.int .i64 total] 3)).alloc (.cells #[.slice A n c] 43)
theorem boxW_size (w : World) (total : Int) (A : Option Addr) (n c : Nat) : (boxW w total A n c).heap.size = w.heap.size + 2 := by simp [boxW]
theorem boxW_below (w : World) (total : Int) (A : Option Addr) (n c : Nat) : Below w.heap.size w (boxW w total A n c) :=
  ((Below.refl _ w).alloc (Nat.le_refl _) _).alloc (by simp) _
theorem boxW_total {w : World} {total : Int} {A : Option Addr} {n c : Nat} {W : World} (h : Below (w.heap.size + 2) (boxW w total A n c) W) : W.cell? ⟨w.heap.size, 0, none⟩ = some (.int .i64 total) := by
  rw [h.cell (p := ⟨w.heap.size, 0, none⟩) (by show w.heap.size < _; omega)]
  exact (Blk.alloc (Blk.new w _ _) _).cell 0
theorem boxW_wants {w : World} {total : Int} {A : Option Addr} {n c : Nat} {W : World} (h : Below (w.heap.size + 2) (boxW w total A n c) W) : W.cell? ⟨w.heap.size + 1, 0, none⟩ = some (.slice A n c) := by
  rw [h.cell (p := ⟨w.heap.size + 1, 0, none⟩) (by show w.heap.size + 1 < _; omega)]
  have := (Blk.new (w.alloc (.cells #[.int .i64 total] 3)) 43 #[.slice A n c]).cell 0
  simp [boxW] at this ⊢
theorem boxW_low {w : World} {total : Int} {A : Option Addr} {n c : Nat} {W : World} (h : Below (w.heap.size + 2) (boxW w total A n c) W) : Below w.heap.size w W :=
  (boxW_below w total A n c).trans (h.mono (by omega))
theorem splitP_bad (total : Int) (ws : List Int) (n : Nat) (hl : ws.length = n) (h : n ≤ 16) (hb : (total :: ws).all inRange = false) : splitP total ws = ([], 2) := by
  rw [splitP, if_neg (by omega)]
  have : (inRange total && ws.all inRange) = false := hb
  rw [this]; rfl
theorem splitP_good (total : Int) (ws : List Int) (n : Nat) (hl : ws.length = n) (h : n ≤ 16) (hb : (total :: ws).all inRange = true) : splitP total ws = (gives total ws, 0) := by
  rw [splitP, if_neg (by omega)]
  have : (inRange total && ws.all inRange) = true := hb
  rw [this]; rfl

set_option maxRecDepth 100000 in
theorem split_any (A : Option Addr) (n c : Nat) (ws : List Int) (total : Int) (B : Nat) (w : World) (hl : ws.length = n) (hnc : n ≤ c) (hm : c ≤ maxLen) (ht : -9223372036854775808 ≤ total ∧ total ≤ 9223372036854775807) (hr : Reads w B 1 A n (ws.map (.int .i64))) (hB : B ≤ w.heap.size) :
    Calls Try.prog 42 #[.int .i64 total, .slice A n c] w fun e w' => SplitPost w.heap.size (splitP total ws) e w w' := by
  obtain ⟨i0, hi, hz0, hz1, hz2⟩ : ∃ i, Try.prog.info? 3 = some i ∧ i.zero = some (.int .i64 0) ∧ i.size = 1 ∧ i.bytes = 8 := by
    have h := info_int'
    cases hi : Try.prog.info? 3 with
    | none => rw [hi] at h; simp at h
    | some i => rw [hi] at h; simp at h; exact ⟨i, rfl, h.1, h.2.1, h.2.2⟩
  have HR := hide hr
  have HL := hide hl
  clear hr hl
  by_cases h16 : 16 < n
  · have HF := hide (show splitP total ws = ([], 1) by rw [splitP, unhide HL, if_pos h16])
    go_enter Try.func42, Try.ntmps42
    go_wp2
    go_ret2
    rw [unhide HF]
    exact ⟨_, rfl, World.ownsRow_nil _ _ _ _, boxW_below w total A n c⟩
  · have h16' : n ≤ 16 := by omega
    clear h16
    have HT := hide ht
    go_enter Try.func42, Try.ntmps42
    have hRB := ((unhide HR).more hB).below (boxW_below w total A n c)
    have hlit := World.ownsRow_lit (base := w.heap.size + 2) (size := 1) (e := 3) (boxW w total A n c) #[.int .i64 total] 1 (by rw [boxW_size]; exact Nat.le_refl _) (by unfold maxLen; omega) rfl
    have hRL := hRB.alloc (by rw [boxW_size]; omega) (.cells #[.int .i64 total] 3)
    rw [boxW_size] at hlit
    have HBX := hide (And.intro hRL hlit)
    clear hRB hlit hRL ht
    have hmx : (1 + n) * 8 ≤ 140737488355328 := by omega
    have hmx2 : 1 + n ≤ maxLen := by unfold maxLen; omega
    go_wp2_with (first
      | (at_builtin; (refine wpList_append_any _ rfl (.tmp 18) (.tmp 19) _ rfl (w.heap.size + 2) 3 i0 _ 1 8 Try.underlying43 hi hz0 hz1 hz2 rfl (by omega) _ 1 _ rfl (unhide HBX).2 w.heap.size A n c (ws.map (.int .i64)) rfl (unhide HBX).1 (by intro u hu; obtain ⟨z, _, rfl⟩ := List.mem_map.1 hu; rfl) hmx2 hmx (by simp) ?_); intro v w1 hown hg hv; obtain ⟨A1, c1, rfl, hc1⟩ := own_slice hown))
    have hbw : Below (w.heap.size + 2) (boxW w total A n c) w1 := by
      refine ((Below.refl _ _).alloc (by rw [boxW_size]; exact Nat.le_refl _) _).grown hg (by simp [boxW]) ?_
      exact fun k hk => ((unhide HBX).2.lt k hk).1
    have HR1 := hide (show Reads w1 w1.heap.size 1 A1 (1 + n) ((total :: ws).map (.int .i64)) from Reads.of_own hown)
    have HB1 := hide hbw
    have hsz1 := hbw.size
    rw [boxW_size] at hsz1
    clear hg hv hown hbw HBX
    go_loop [22] (fun i => ∃ (k : Nat), k ≤ 1 + n ∧ i = .int .i64 k ∧ Hid (((total :: ws).drop k).all inRange = (total :: ws).all inRange)) (fun i => 1 + n - (intOf i).toNat)
    case atStart => exact ⟨0, Nat.zero_le _, rfl, rfl⟩
    case round =>
      obtain ⟨k, hk, rfl, HI⟩ := hrel
      by_cases hlt : k < 1 + n
      · obtain ⟨b, o, z, rfl, _, hz, hc⟩ := at_num (unhide HR1) hlt
        have HI2 := hide (show (inRange z && ((total :: ws).drop (k + 1)).all inRange) = (total :: ws).all inRange by
          have h := unhide HI
          rw [drop_cons _ k z hz, List.all_cons] at h
          exact h)
        clear HI hz
        by_cases hz0 : z < 0
        · have HF := hide (splitP_bad total ws n (unhide HL) h16' (by rw [← unhide HI2]; simp [inRange]; omega))
          go_wp2_with fail
          go_ret2
          rw [unhide HF]
          exact ⟨_, rfl, World.ownsRow_nil _ _ _ _, boxW_low (unhide HB1)⟩
        · by_cases hz1 : 1048576 < z
          · have HF := hide (splitP_bad total ws n (unhide HL) h16' (by rw [← unhide HI2]; simp [inRange]; omega))
            have hz0' : 0 ≤ z := by omega
            clear hz0
            go_wp2_with fail
            go_ret2
            rw [unhide HF]
            exact ⟨_, rfl, World.ownsRow_nil _ _ _ _, boxW_low (unhide HB1)⟩
          · have HI3 := hide (show ((total :: ws).drop (k + 1)).all inRange = (total :: ws).all inRange by
              rw [← unhide HI2]
              have : inRange z = true := by simp [inRange]; omega
              rw [this, Bool.true_and])
            have hz0' : 0 ≤ z := by omega
            have hz1' : z ≤ 1048576 := by omega
            clear hz0 hz1 HI2
            go_wp2_with fail
            go_round
            case rel => exact ⟨k + 1, by omega, by go_num, unhide HI3⟩
            case measure => simp [intOf]; omega
      · obtain rfl : k = 1 + n := by omega
        have hall : (total :: ws).all inRange = true := by
          have h := unhide HI
          rw [List.drop_of_length_le (by rw [List.length_cons, unhide HL]; omega)] at h
          exact h.symm
        have HF := hide (splitP_good total ws n (unhide HL) h16' hall)
        have hal := (inRange_all (total :: ws)).1 hall
        have ht0 := (hal total (by simp)).1
        have ht1 := (hal total (by simp)).2
        have HW := hide (fun z (hz : z ∈ ws) => hal z (by simp [hz]))
        have HRW := hide (((unhide HR).more hB).below (boxW_low (unhide HB1)))
        have ct := boxW_total (unhide HB1)
        have cw := boxW_wants (unhide HB1)
        clear hal hall HI HR1
        have HC := hide (fun (lv : Int) (q : Nat) (h0 : 0 ≤ lv) (h1 : lv ≤ 1048577) => least_any A n c ws lv w.heap.size (w1.drewN q) (unhide HL) h16' (unhide HW) h0 h1 ((unhide HRW).drewN q))
        have HS := hide (show Calls Try.prog 48 #[.int .i64 1048577, .func (.func 49) #[] #[.pointer (some ⟨w.heap.size + 1, 0, none⟩), .pointer (some ⟨w.heap.size, 0, none⟩)]] w1 _ from
          search_any 49 #[.pointer (some ⟨w.heap.size + 1, 0, none⟩), .pointer (some ⟨w.heap.size, 0, none⟩)] (fun lv => decide (total < leastL ws lv)) 1048577 (by omega) w1 clo_enters
            fun k q hk => splitClo_any A n c ws total k w.heap.size (w1.drewN q) _ _ (unhide HL) h16' (unhide HW) (by omega) (by omega) ((unhide HRW).drewN q) cw ct)
        go_wp2_with fail
        refine (unhide HS).mono ?_
        rintro e w2 ⟨i, rfl, hiN, hia, hib, m, rfl⟩
        have hi0 : i ≠ 0 := by
          rintro rfl
          rcases hib with h | h
          · omega
          · simp only [decide_eq_true_eq] at h
            rw [show ((0 : Nat) : Int) = 0 from rfl, leastL_zero ws (fun z hz => (unhide HW z hz).1)] at h
            omega
        obtain ⟨lv, rfl⟩ : ∃ lv, i = lv + 1 := ⟨i - 1, by omega⟩
        have e1 : (((lv + 1 : Nat) : Int) - 1) = lv := by omega
        rw [e1] at hia
        have hle : leastL ws lv ≤ total := by
          rcases hia with h | h
          · omega
          · simpa using h
        have hlev : IsLevel total ws lv := by
          refine ⟨by omega, hle, ?_⟩
          rcases hib with h | h
          · right; intro z hz; have := (unhide HW z hz).2; omega
          · left; simpa using h
        have HG0 := gives_level total ws ht0 (unhide HW) lv hlev
        have hlv : lv ≤ 1048576 := by omega
        have hlb := (leastL_bounds ws (unhide HW) lv (by omega)).1
        have HLV := hide (Eq.refl (leastL ws lv))
        obtain ⟨L, hL⟩ : ∃ L, leastL ws lv = L := ⟨_, rfl⟩
        have HC2 := hide (show ∀ q, Calls Try.prog 50 #[.slice A n c, .int .i64 lv] (w1.drewN q) fun e w' => e = .returned (.int .i64 L) ∧ w1.drewN q = w' from
          fun q => by rw [← hL]; exact unhide HC lv q (by omega) (by omega))
        rw [hL] at HG0 hle hlb
        have HG := hide HG0
        clear HG0 HC HS hia hib hlev hL HLV hi0 hiN
        go_wp2_with fail
        go_quiet ((go_at_call 50; exact quiet_add_left (unhide HC2 _)))
        have HB2 := hide (show Below (w.heap.size + 2) (boxW w total A n c) ((w1.drewN m).drewN nq) from below_drewN (below_drewN (unhide HB1) _) _)
        have hsz2 : w.heap.size + 2 ≤ ((w1.drewN m).drewN nq).heap.size := hsz1
        obtain ⟨w3, hw3⟩ : ∃ w3, w3 = (w1.drewN m).drewN nq := ⟨_, rfl⟩
        rw [← hw3] at HB2 hsz2
        have ct3 := boxW_total (unhide HB2)
        have cw3 := boxW_wants (unhide HB2)
        rw [← hw3]
        have HR0 := hide ((unhide HR).more hB)
        clear HR hw3 HB1 HRW HC2 ct cw hsz1
        go_wp2_with fail
        go_loopw [9, 10, 43] (fun x v i wr => ∃ (k : Nat) (r : Int) (gs : List Int), k ≤ n ∧ i = .int .i64 k ∧ x = .int .i64 r ∧ 0 ≤ r ∧ r ≤ 1048576 ∧ wr.ownsRow (w.heap.size + 2) 3 1 v k (gs.map (.int .i64)) ∧ Below (w.heap.size + 2) (boxW w total A n c) wr ∧ Hid (gs ++ greedy lv r (ws.drop k) = gives total ws)) (fun _ _ i _ => n - (intOf i).toNat)
        case atStart => exact ⟨0, total - L, [], Nat.zero_le _, rfl, rfl, by omega, by omega, World.ownsRow_nil _ _ _ _, unhide HB2, unhide HG⟩
        case round =>
          obtain ⟨k, r, gs, hk, rfl, rfl, hr0, hr1, hown, hb, HI⟩ := hrel
          by_cases hlt : k < n
          · obtain ⟨b, o, z, rfl, _, hz, hc⟩ := at_num ((unhide HR0).below (boxW_low hb)) hlt
            have hzb := unhide HW z (List.mem_of_getElem? hz)
            have hzz0 := hzb.1
            have hzz1 := hzb.2
            have HI2 := hide (show gs ++ greedy lv r (z :: ws.drop (k + 1)) = gives total ws by
              have h := unhide HI
              rwa [drop_cons ws k z hz] at h)
            have hsz := hb.size
            rw [boxW_size] at hsz
            clear HI hz hzb
            by_cases hzl : (lv : Int) < z
            · by_cases hrp : 0 < r
              · have HI3 := hide (show (gs ++ [(lv : Int) + 1]) ++ greedy lv (r - 1) (ws.drop (k + 1)) = gives total ws by
                  have h := unhide HI2
                  rw [greedy, if_pos ⟨hzl, hrp⟩] at h
                  simpa using h)
                clear HI2
                go_wp2_with (first
                  | (at_builtin; (refine wpList_append_new _ rfl (.tmp 61) (.tmp 63) _ rfl (w.heap.size + 2) 3 i0 _ 1 8 Try.underlying43 hi hz0 hz1 hz2 rfl (by omega) (by omega) _ _ _ hown rfl _ 1 _ rfl rfl rfl (by simp [Value.oneCell']) (by omega) (by omega) ?_); intro g cap w4 hg hown1 hbel1 _ _))
                go_roundw
                case rel => exact ⟨k + 1, r - 1, gs ++ [(lv : Int) + 1], by omega, by go_num, rfl, by omega, by omega, by rw [List.map_append]; exact hown1, hbel1 _ _ (Nat.le_refl _) hb, unhide HI3⟩
                case measure => simp [intOf]; omega
              · have HI3 := hide (show (gs ++ [(lv : Int)]) ++ greedy lv r (ws.drop (k + 1)) = gives total ws by
                  have h := unhide HI2
                  rw [greedy, if_neg (by omega), Int.min_eq_right (by omega)] at h
                  simpa using h)
                clear HI2
                go_wp2_with (first
                  | (at_builtin; (refine wpList_append_new _ rfl (.tmp 61) (.tmp 63) _ rfl (w.heap.size + 2) 3 i0 _ 1 8 Try.underlying43 hi hz0 hz1 hz2 rfl (by omega) (by omega) _ _ _ hown rfl _ 1 _ rfl rfl rfl (by simp [Value.oneCell']) (by omega) (by omega) ?_); intro g cap w4 hg hown1 hbel1 _ _))
                go_roundw
                case rel => exact ⟨k + 1, r, gs ++ [(lv : Int)], by omega, by go_num, rfl, by omega, by omega, by rw [List.map_append]; exact hown1, hbel1 _ _ (Nat.le_refl _) hb, unhide HI3⟩
                case measure => simp [intOf]; omega
            · have HI3 := hide (show (gs ++ [z]) ++ greedy lv r (ws.drop (k + 1)) = gives total ws by
                have h := unhide HI2
                rw [greedy, if_neg (by omega), Int.min_eq_left (by omega)] at h
                simpa using h)
              clear HI2
              go_wp2_with (first
                | (at_builtin; (refine wpList_append_new _ rfl (.tmp 61) (.tmp 63) _ rfl (w.heap.size + 2) 3 i0 _ 1 8 Try.underlying43 hi hz0 hz1 hz2 rfl (by omega) (by omega) _ _ _ hown rfl _ 1 _ rfl rfl rfl (by simp [Value.oneCell']) (by omega) (by omega) ?_); intro g cap w4 hg hown1 hbel1 _ _))
              go_roundw
              case rel => exact ⟨k + 1, r, gs ++ [z], by omega, by go_num, rfl, by omega, by omega, by rw [List.map_append]; exact hown1, hbel1 _ _ (Nat.le_refl _) hb, unhide HI3⟩
              case measure => simp [intOf]; omega
          · obtain rfl : k = n := by omega
            have hgs : gs = gives total ws := by
              have h := unhide HI
              rw [List.drop_of_length_le (by rw [unhide HL]; exact Nat.le_refl _), greedy, List.append_nil] at h
              exact h
            have HO := hide hown
            have HBB := hide hb
            clear HI hown hb
            go_wp2_with fail
            go_ret2
            rw [unhide HF]
            have hlen : (gives total ws).length = k := by unfold gives; rw [greedy_len, unhide HL]
            refine ⟨_, rfl, ?_, boxW_low (unhide HBB)⟩
            dsimp only
            rw [hlen, ← hgs]
            exact (unhide HO).mono (by omega)
end Go.Proofs.Ytiljallignlbgaa
