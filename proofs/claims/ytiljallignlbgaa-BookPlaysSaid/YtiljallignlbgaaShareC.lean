/- Contract of the reference's ShareSplit. Conditions: none beyond what the theorem states. -/
import Derived.Test.YtiljallignlbgaaShareB
import Derived.Test.YtiljallignlbgaaShareQ
namespace Go.Proofs.Ytiljallignlbgaa
open Go.RowKit
set_option linter.unusedVariables false

def RowW (w wr : World) (g : Nat) (os : List Int) : Prop := w.heap.size ≤ g ∧ Below w.heap.size w wr ∧ Blk wr g 3 (os.map (Value.int .i64)).toArray
theorem RowW.cell {w wr : World} {g : Nat} {os : List Int} (h : RowW w wr g os) {k : Nat} {o : Int} (hk : os[k]? = some o) : wr.cell? ⟨g, k, none⟩ = some (.int .i64 o) := by
  rw [h.2.2.cell k]; simp [hk]
theorem RowW.frozen {w wr : World} {g : Nat} {os : List Int} (h : RowW w wr g os) (k : Nat) : wr.frozen? ⟨g, k, none⟩ = false := h.2.2.frozen k
theorem RowW.set_ {w wr : World} {g : Nat} {gs os : List Int} {o : Int} (h : RowW w wr g (gs ++ o :: os)) (k : Nat) (hk : gs.length = k) (x : Int) : RowW w (wr.setCell ⟨g, k, none⟩ (.int .i64 x)) g ((gs ++ [x]) ++ os) := by
  subst hk
  refine ⟨h.1, h.2.1.setCell h.1 _, ?_⟩
  have := h.2.2.set_ gs.length (.int .i64 x)
  have e : ((gs ++ o :: os).map (Value.int .i64)).toArray.setIfInBounds gs.length (.int .i64 x) = (((gs ++ [x]) ++ os).map (Value.int .i64)).toArray := by
    rw [← Array.toList_inj]
    simp
  rw [e] at this
  exact this
theorem RowW.own {w wr : World} {g : Nat} {os : List Int} (h : RowW w wr g os) (n : Nat) (hn : os.length = n) (hm : n ≤ maxLen) : wr.ownsRow w.heap.size 3 1 (.slice (some ⟨g, 0, none⟩) n n) n (os.map (Value.int .i64)) :=
  ⟨by simp [hn], .inr ⟨g, n, _, rfl, h.1, h.2.2, Nat.le_refl _, hm, by simp [hn], by rw [List.take_of_length_le (by simp [hn])]⟩⟩
theorem scan_bounds : ∀ (ws os : List Int) (op st : Int), (∀ (k : Nat) (w o : Int), ws[k]? = some w → os[k]? = some o → 0 ≤ w ∧ w ≤ 1048576 ∧ 0 ≤ o) → 0 ≤ op → 0 ≤ st ∧ st ≤ 1048576 →
    op ≤ (scan ws os op st).1 ∧ (scan ws os op st).1 ≤ op + ws.length ∧ 0 ≤ (scan ws os op st).2 ∧ (scan ws os op st).2 ≤ 1048576
  | [], _, op, st, _, h0, h1 => by simp [scan]; exact h1
  | _ :: _, [], op, st, _, h0, h1 => by simp [scan]; omega
  | w :: ws, o :: os, op, st, h, h0, h1 => by
    have h2 := h 0 w o rfl rfl
    rw [scan]
    split
    · have := scan_bounds ws os (op + 1) (if st = 0 ∨ w - o < st then w - o else st) (fun k w o hw ho => h (k + 1) w o (by simpa using hw) (by simpa using ho)) (by omega) (by split <;> omega)
      simp only [List.length_cons]
      omega
    · have := scan_bounds ws os op st (fun k w o hw ho => h (k + 1) w o (by simpa using hw) (by simpa using ho)) (by omega) h1
      simp only [List.length_cons]
      omega

theorem pay_nil (s : Int) (os : List Int) (one t : Int) : pay s [] os one t = ([], t) := by cases os <;> rfl
theorem scan_pos : ∀ (ws os : List Int) (op st : Int), 0 ≤ st → (0 < op → 0 < st) → 0 < (scan ws os op st).1 → 0 < (scan ws os op st).2
  | [], _, op, st, _, h, h1 => by simp [scan] at h1 ⊢; exact h h1
  | _ :: _, [], op, st, _, h, h1 => by simp [scan] at h1 ⊢; exact h h1
  | w :: ws, o :: os, op, st, h0, h, h1 => by
    rw [scan] at h1 ⊢
    split
    · rename_i hc
      rw [if_pos hc] at h1
      exact scan_pos ws os _ _ (by split <;> omega) (fun _ => by split <;> omega) h1
    · rename_i hc
      rw [if_neg hc] at h1
      exact scan_pos ws os _ _ h0 h h1

set_option maxRecDepth 4000 in
set_option maxHeartbeats 1600000 in
theorem splitRef_any (A : Option Addr) (n c : Nat) (ws : List Int) (total : Int) (B : Nat) (w : World) (hl : ws.length = n) (hnc : n ≤ c) (hm : c ≤ maxLen) (ht : -9223372036854775808 ≤ total ∧ total ≤ 9223372036854775807) (hr : Reads w B 1 A n (ws.map (.int .i64))) (hB : B ≤ w.heap.size) :
    Calls Try.prog 32 #[.int .i64 total, .slice A n c] w fun e w' => SplitPost w.heap.size (splitP total ws) e w w' := by
  obtain ⟨i0, hi, hz0, hz1, hz2⟩ : ∃ i, Try.prog.info? 3 = some i ∧ i.zero = some (.int .i64 0) ∧ i.size = 1 ∧ i.bytes = 8 := by
    have h := info_int'
    cases hi : Try.prog.info? 3 with
    | none => rw [hi] at h; simp at h
    | some i => rw [hi] at h; simp at h; exact ⟨i, rfl, h.1, h.2.1, h.2.2⟩
  have HR := hide hr
  have HL := hide hl
  clear hr hl
  by_cases h16 : 16 < n
  · have HF := hide (show splitP total ws = ([], 1) by rw [splitP, unhide HL, if_pos h16])
    go_enter Try.func32, Try.ntmps32
    go_wp2
    go_ret2
    rw [unhide HF]
    exact ⟨_, rfl, World.ownsRow_nil _ _ _ _, Below.refl _ _⟩
  · have h16' : n ≤ 16 := by omega
    clear h16
    by_cases ht0 : total < 0
    · have HF := hide (splitP_bad total ws n (unhide HL) h16' (by simp [inRange]; omega))
      go_enter Try.func32, Try.ntmps32
      go_wp2
      go_ret2
      rw [unhide HF]
      exact ⟨_, rfl, World.ownsRow_nil _ _ _ _, Below.refl _ _⟩
    have ht0' : 0 ≤ total := by omega
    clear ht0
    by_cases ht1 : 1048576 < total
    · have HF := hide (splitP_bad total ws n (unhide HL) h16' (by simp [inRange]; omega))
      go_enter Try.func32, Try.ntmps32
      go_wp2
      go_ret2
      rw [unhide HF]
      exact ⟨_, rfl, World.ownsRow_nil _ _ _ _, Below.refl _ _⟩
    have ht1' : total ≤ 1048576 := by omega
    clear ht1 ht
    have HIT := hide (show inRange total = true by simp [inRange]; omega)
    have hmk := fun W => run_make_rowN (P := Try.prog) 43 3 i0 _ Try.underlying43 hi hz0 .i64 .i64 n n (Nat.le_refl _) (by rw [hz2]; omega) (by omega) W
    rw [hz1] at hmk
    go_enter Try.func32, Try.ntmps32
    go_wp2
    go_loop [27] (fun i => ∃ (k : Nat), k ≤ n ∧ i = .int .i64 k ∧ Hid ((ws.drop k).all inRange = ws.all inRange)) (fun i => n - (intOf i).toNat)
    case atStart => exact ⟨0, Nat.zero_le _, rfl, rfl⟩
    case round =>
      obtain ⟨k, hk, rfl, HI⟩ := hrel
      by_cases hlt : k < n
      · obtain ⟨b, o, z, rfl, _, hz, hc⟩ := at_num (unhide HR) hlt
        have HI2 := hide (show (inRange z && (ws.drop (k + 1)).all inRange) = ws.all inRange by
          have h := unhide HI
          rw [drop_cons _ k z hz, List.all_cons] at h
          exact h)
        clear HI hz
        by_cases hz0 : z < 0
        · have HF := hide (splitP_bad total ws n (unhide HL) h16' (by rw [List.all_cons, ← unhide HI2]; simp [inRange]; omega))
          go_wp2_with fail
          go_ret2
          rw [unhide HF]
          exact ⟨_, rfl, World.ownsRow_nil _ _ _ _, Below.refl _ _⟩
        · by_cases hz1 : 1048576 < z
          · have HF := hide (splitP_bad total ws n (unhide HL) h16' (by rw [List.all_cons, ← unhide HI2]; simp [inRange]; omega))
            have hz0' : 0 ≤ z := by omega
            clear hz0
            go_wp2_with fail
            go_ret2
            rw [unhide HF]
            exact ⟨_, rfl, World.ownsRow_nil _ _ _ _, Below.refl _ _⟩
          · have HI3 := hide (show (ws.drop (k + 1)).all inRange = ws.all inRange by
              rw [← unhide HI2]
              have : inRange z = true := by simp [inRange]; omega
              rw [this, Bool.true_and])
            have hz0' : 0 ≤ z := by omega
            have hz1' : z ≤ 1048576 := by omega
            clear hz0 hz1 HI2
            go_wp2_with fail
            go_round
            case rel => exact ⟨k + 1, by omega, by go_num, unhide HI3⟩
            case measure => simp [intOf]; omega
      · obtain rfl : k = n := by omega
        have hall : ws.all inRange = true := by
          have h := unhide HI
          rw [List.drop_of_length_le (by rw [unhide HL]; omega)] at h
          exact h.symm
        have HF := hide (splitP_good total ws k (unhide HL) h16' (by rw [List.all_cons, unhide HIT, hall]; rfl))
        have HW := hide ((inRange_all ws).1 hall)
        have HS0 := hide (round_start total ws ht0' (unhide HW))
        clear hall HI HIT
        go_wp2_with fail
        go_loopw [0] (fun x wr => ∃ (t : Int) (os : List Int), x = .int .i64 t ∧ RowW w wr w.heap.size os ∧ Hid (Round total ws os t)) (fun x _ => (intOf x).toNat)
        case atStart =>
          refine ⟨total, _, rfl, ⟨Nat.le_refl _, (Below.refl _ _).alloc (Nat.le_refl _) _, ?_⟩, unhide HS0⟩
          have e : ((List.replicate ws.length (0 : Int)).map (Value.int .i64)).toArray = madeCells #[.int .i64 0] k := by
            rw [← Array.toList_inj, toList_madeCells_one]
            simp [unhide HL]
          rw [e]
          have := Blk.new w 3 (madeCells #[.int .i64 0] k)
          simpa using this
        case round =>
          obtain ⟨t, os, rfl, HRW, HS⟩ := hrel
          have ht0 := (unhide HS).2.1
          have ht1 := (unhide HS).2.2.1
          have HRW' := hide HRW
          have HLO := hide (show os.length = k from (unhide HS).1.trans (unhide HL))
          have HBD := hide (show ∀ (j : Nat) (z o : Int), ws[j]? = some z → os[j]? = some o → 0 ≤ z ∧ z ≤ 1048576 ∧ 0 ≤ o ∧ o ≤ z from fun j z o hz ho =>
            ⟨(unhide HW z (List.mem_of_getElem? hz)).1, (unhide HW z (List.mem_of_getElem? hz)).2, (unhide HS).2.2.2.1 j z o hz ho⟩)
          have HSB := hide (scan_bounds ws os 0 0 (fun j z o hz ho => have h := unhide HBD j z o hz ho; ⟨h.1, h.2.1, h.2.2.1⟩) (by omega) (by omega))
          clear HRW
          obtain ⟨wo, rfl⟩ : ∃ wo : World, wo = wr := ⟨_, rfl⟩
          go_wp2_with fail
          go_loop [9, 10, 43] (fun x y i => ∃ (j op : Nat) (st : Int), j ≤ k ∧ op ≤ j ∧ 0 ≤ st ∧ st ≤ 1048576 ∧ i = .int .i64 j ∧ x = .int .i64 op ∧ y = .int .i64 st ∧ Hid (scan (ws.drop j) (os.drop j) op st = scan ws os 0 0)) (fun _ _ i => k - (intOf i).toNat)
          case atStart => exact ⟨0, 0, 0, Nat.zero_le _, Nat.le_refl _, by omega, by omega, rfl, rfl, rfl, rfl⟩
          case round =>
            obtain ⟨j, op, st, hj, hop, hst0, hst1, rfl, rfl, rfl, HI⟩ := hrel
            by_cases hlt : j < k
            · obtain ⟨b, ob, z, rfl, _, hz, hc⟩ := at_num ((unhide HR).below ((unhide HRW').2.1.mono hB)) hlt
              obtain ⟨o, ho⟩ : ∃ o, os[j]? = some o := ⟨_, List.getElem?_eq_getElem (by rw [unhide HLO]; exact hlt)⟩
              have hco := (unhide HRW').cell ho
              have hbd := unhide HBD j z o hz ho
              have HI2 := hide (show scan (z :: ws.drop (j + 1)) (o :: os.drop (j + 1)) op st = scan ws os 0 0 by
                have h := unhide HI
                rwa [drop_cons ws j z hz, drop_cons os j o ho] at h)
              clear HI hz ho
              by_cases hoz : o < z
              · by_cases hs0 : st = 0
                · have HI3 := hide (show scan (ws.drop (j + 1)) (os.drop (j + 1)) ((op + 1 : Nat) : Int) (z - o) = scan ws os 0 0 by
                    have h := unhide HI2
                    rw [scan, if_pos hoz, if_pos (.inl hs0)] at h
                    exact h)
                  clear HI2
                  subst hs0
                  go_wp2_with fail
                  go_round
                  case rel => exact ⟨j + 1, op + 1, z - o, by omega, by omega, by omega, by omega, by go_num, by go_num, rfl, unhide HI3⟩
                  case measure => simp [intOf]; omega
                · by_cases hs1 : z - o < st
                  · have HI3 := hide (show scan (ws.drop (j + 1)) (os.drop (j + 1)) ((op + 1 : Nat) : Int) (z - o) = scan ws os 0 0 by
                      have h := unhide HI2
                      rw [scan, if_pos hoz, if_pos (.inr hs1)] at h
                      exact h)
                    clear HI2
                    have hs0' : 0 < st := by omega
                    go_wp2_with fail
                    go_round
                    case rel => exact ⟨j + 1, op + 1, z - o, by omega, by omega, by omega, by omega, by go_num, by go_num, rfl, unhide HI3⟩
                    case measure => simp [intOf]; omega
                  · have HI3 := hide (show scan (ws.drop (j + 1)) (os.drop (j + 1)) ((op + 1 : Nat) : Int) st = scan ws os 0 0 by
                      have h := unhide HI2
                      rw [scan, if_pos hoz, if_neg (by omega)] at h
                      exact h)
                    clear HI2
                    have hs0' : 0 < st := by omega
                    go_wp2_with fail
                    go_round
                    case rel => exact ⟨j + 1, op + 1, st, by omega, by omega, by omega, by omega, by go_num, by go_num, rfl, unhide HI3⟩
                    case measure => simp [intOf]; omega
              · have HI3 := hide (show scan (ws.drop (j + 1)) (os.drop (j + 1)) op st = scan ws os 0 0 by
                  have h := unhide HI2
                  rw [scan, if_neg hoz] at h
                  exact h)
                clear HI2
                go_wp2_with fail
                go_round
                case rel => exact ⟨j + 1, op, st, by omega, by omega, by omega, by omega, by go_num, rfl, rfl, unhide HI3⟩
                case measure => simp [intOf]; omega
            · obtain rfl : j = k := by omega
              have HSC := hide (show ((op : Int), st) = scan ws os 0 0 by
                have h := unhide HI
                rw [List.drop_of_length_le (by rw [unhide HL]; omega)] at h
                exact h)
              clear HI
              have HOP := hide (show (scan ws os 0 0).1 = op by rw [← unhide HSC])
              have HST := hide (show (scan ws os 0 0).2 = st by rw [← unhide HSC])
              by_cases hdone : op = 0 ∨ t = 0
              · have HD := hide (round_done total ws os t ht0' (unhide HW) (unhide HS) (by rw [unhide HOP]; omega))
                have HE : ∀ W, W = wo → SplitPost w.heap.size (splitP total ws) (.returned (.tuple #[.slice (some ⟨w.heap.size, 0, none⟩) j j, .int .i64 0])) w W := by
                  rintro W rfl
                  rw [unhide HF]
                  refine ⟨_, rfl, ?_, (unhide HRW').2.1⟩
                  have h := (unhide HRW').own j (unhide HLO) (by unfold maxLen; omega)
                  rw [unhide HD] at h
                  have e : (gives total ws).length = j := by rw [← unhide HD]; exact unhide HLO
                  dsimp only
                  rw [e]
                  exact h
                have HEH := hide HE
                clear HE HD
                by_cases hop0 : op = 0
                · subst hop0
                  go_wp2_with fail
                  go_ret2
                  exact unhide HEH _ rfl
                · have ht00 : t = 0 := by omega
                  subst ht00
                  have hop1 : 0 < op := by omega
                  clear hdone hop0
                  go_wp2_with fail
                  go_ret2
                  exact unhide HEH _ rfl
              · have hop1 : 0 < op := by omega
                have htp : 0 < t := by omega
                clear hdone
                obtain ⟨stp, hstp⟩ : ∃ stp : Int, stp = if t < st * op then t / op else st := ⟨_, rfl⟩
                have hmul : 0 ≤ st * (op : Int) ∧ st * (op : Int) ≤ 16 * 1048576 := by
                  refine ⟨Int.mul_nonneg hst0 (by omega), ?_⟩
                  have h1 := Int.mul_le_mul hst1 (show (op : Int) ≤ 16 by omega) (by omega) (by omega)
                  omega
                have hdiv : 0 ≤ t / (op : Int) ∧ t / (op : Int) ≤ 1048576 := by
                  refine ⟨Int.ediv_nonneg ht0 (by omega), ?_⟩
                  exact Int.le_trans (Int.ediv_le_self _ ht0) (by omega)
                have hsb : 0 ≤ stp ∧ stp ≤ 1048576 := by
                  rw [hstp]; split
                  · exact hdiv
                  · exact ⟨hst0, hst1⟩
                have HNX := hide (round_step total ws os t stp ht0' (unhide HW) (unhide HS) (by rw [unhide HOP]; omega) (by omega) (by rw [unhide HOP, unhide HST]; exact hstp))
                have HSP := hide hstp
                obtain ⟨mu, hmu⟩ : ∃ mu, mu = st * (op : Int) := ⟨_, rfl⟩
                obtain ⟨dv, hdv⟩ : ∃ dv, dv = t / (op : Int) := ⟨_, rfl⟩
                have HSTP := hide (show 0 < st by have h := scan_pos ws os 0 0 (by omega) (by omega) (by rw [unhide HOP]; omega); rwa [unhide HST] at h)
                have HSTP := hide (show 0 < st by have h := scan_pos ws os 0 0 (by omega) (by omega) (by rw [unhide HOP]; omega); rwa [unhide HST] at h)
                have HSTP := hide (show 0 < st by have h := scan_pos ws os 0 0 (by omega) (by omega) (by rw [unhide HOP]; omega); rwa [unhide HST] at h)
                clear hstp HSC HOP HST
                have htb : (t == 0) = false := by simp; omega
                have hob : ((op : Int) == 0) = false := by simp; omega
                have hot : ¬ (((op : Int) == 0) = true ∨ (t == 0) = true) := by rw [htb, hob]; simp
                have hstp0 := unhide HSTP
                by_cases hlm : t < st * (op : Int)
                · by_cases hq0 : t / (op : Int) = 0
                  · have HNX2 := hide (by have h := unhide HNX; rw [unhide HSP, if_pos hlm, hq0, if_pos rfl] at h; exact h)
                    clear HNX HSP
                    go_wp2_with fail
                    have HP0 := hide (show Round total ws (pay 0 ws os t t).1 (pay 0 ws os t t).2 ∧ (pay 0 ws os t t).2 < t from unhide HNX2)
                    go_loopw [0, 13, 95] (fun x y i wx => ∃ (m : Nat) (t1 one : Int) (gs : List Int), m ≤ j ∧ i = .int .i64 m ∧ x = .int .i64 t1 ∧ y = .int .i64 one ∧ t - 1048576 * m ≤ t1 ∧ t1 ≤ t ∧ 0 ≤ one ∧ one ≤ 1048576 ∧ gs.length = m ∧ RowW w wx w.heap.size (gs ++ os.drop m) ∧ Hid ((gs ++ (pay 0 (ws.drop m) (os.drop m) one t1).1, (pay 0 (ws.drop m) (os.drop m) one t1).2) = pay 0 ws os t t)) (fun _ _ i _ => j - (intOf i).toNat)
                    case atStart => exact ⟨0, t, t, [], Nat.zero_le _, rfl, rfl, rfl, by omega, by omega, by omega, by omega, rfl, unhide HRW', rfl⟩
                    case round =>
                      obtain ⟨m, t1, one, gs, hmj, rfl, rfl, rfl, ht2, ht3, hone0, hone1, hgs, HRX, HI⟩ := hrel
                      by_cases hlt : m < j
                      · obtain ⟨b, ob, z, rfl, _, hz, hc⟩ := at_num ((unhide HR).below (HRX.2.1.mono hB)) hlt
                        obtain ⟨o, ho⟩ : ∃ o, os[m]? = some o := ⟨_, List.getElem?_eq_getElem (by rw [unhide HLO]; exact hlt)⟩
                        have hdo := drop_cons os m o ho
                        have hco := HRX.cell (k := m) (o := o) (by rw [List.getElem?_append_right (by omega), hgs, Nat.sub_self, hdo]; rfl)
                        have hfr := HRX.frozen m
                        have hbd := unhide HBD m z o hz ho
                        have HI2 := hide (show (gs ++ (pay 0 (z :: ws.drop (m + 1)) (o :: os.drop (m + 1)) one t1).1, (pay 0 (z :: ws.drop (m + 1)) (o :: os.drop (m + 1)) one t1).2) = pay 0 ws os t t by
                          have h := unhide HI
                          rwa [drop_cons ws m z hz, hdo] at h)
                        have HRX1 := hide (show RowW w wr w.heap.size (gs ++ o :: os.drop (m + 1)) by rw [← hdo]; exact HRX)
                        have HRX2 := hide (show RowW w wr w.heap.size ((gs ++ [o]) ++ os.drop (m + 1)) by simpa using unhide HRX1)
                        have hgl : ∀ x : Int, (gs ++ [x]).length = m + 1 := fun x => by simp [hgs]
                        clear HI hz ho HRX hdo
                        by_cases hoz : o < z
                        · by_cases hon : 0 < one
                          · skip
                            have HI3 := hide (show ((gs ++ [o + 1]) ++ (pay 0 (ws.drop (m + 1)) (os.drop (m + 1)) (one - 1) (t1 - 1)).1, (pay 0 (ws.drop (m + 1)) (os.drop (m + 1)) (one - 1) (t1 - 1)).2) = pay 0 ws os t t by
                              have h := unhide HI2
                              rw [pay, if_pos hoz, if_neg (by omega), if_pos hon] at h
                              simpa using h)
                            clear HI2
                            have HRX3 := hide ((unhide HRX1).set_ m hgs (o + 1))
                            clear HRX1 HRX2
                            go_wp2_with fail
                            go_roundw
                            case rel => exact ⟨m + 1, (t1 - 1), (one - 1), gs ++ [o + 1], by omega, by go_num, rfl, rfl, by omega, by omega, by omega, by omega, hgl _, unhide HRX3, unhide HI3⟩
                            case measure => simp [intOf]; omega
                          · skip
                            have HI3 := hide (show ((gs ++ [o]) ++ (pay 0 (ws.drop (m + 1)) (os.drop (m + 1)) one t1).1, (pay 0 (ws.drop (m + 1)) (os.drop (m + 1)) one t1).2) = pay 0 ws os t t by
                              have h := unhide HI2
                              rw [pay, if_pos hoz, if_neg (by omega), if_neg hon] at h
                              simpa using h)
                            clear HI2
                            have HRX3 := hide (unhide HRX2)
                            clear HRX1 HRX2
                            go_wp2_with fail
                            go_roundw
                            case rel => exact ⟨m + 1, t1, one, gs ++ [o], by omega, by go_num, rfl, rfl, by omega, by omega, by omega, by omega, hgl _, unhide HRX3, unhide HI3⟩
                            case measure => simp [intOf]; omega
                        · skip
                          have HI3 := hide (show ((gs ++ [o]) ++ (pay 0 (ws.drop (m + 1)) (os.drop (m + 1)) one t1).1, (pay 0 (ws.drop (m + 1)) (os.drop (m + 1)) one t1).2) = pay 0 ws os t t by
                            have h := unhide HI2
                            rw [pay, if_neg hoz] at h
                            simpa using h)
                          clear HI2
                          have HRX3 := hide (unhide HRX2)
                          clear HRX1 HRX2
                          go_wp2_with fail
                          go_roundw
                          case rel => exact ⟨m + 1, t1, one, gs ++ [o], by omega, by go_num, rfl, rfl, by omega, by omega, by omega, by omega, hgl _, unhide HRX3, unhide HI3⟩
                          case measure => simp [intOf]; omega
                      · obtain rfl : m = j := by omega
                        have HFIN := hide (show (gs, t1) = pay 0 ws os t t by
                          have h := unhide HI
                          rw [List.drop_of_length_le (l := ws) (by rw [unhide HL]; omega), pay_nil, List.append_nil] at h
                          exact h)
                        have HRY := hide (show RowW w wr w.heap.size gs by
                          have h := HRX
                          rw [List.drop_of_length_le (l := os) (by rw [unhide HLO]; omega), List.append_nil] at h
                          exact h)
                        have HRD := hide (show Round total ws gs t1 ∧ t1 < t by have h := unhide HP0; rw [← unhide HFIN] at h; exact h)
                        clear HI HRX HFIN htb hob hot hmul hdiv hmu hdv hsb hlm
                        go_wp2_with fail
                        go_roundw
                        case rel => exact ⟨t1, gs, rfl, unhide HRY, (unhide HRD).1⟩
                        case measure =>
                          have h := (unhide HRD).2
                          simp [intOf]; omega
                  · have hpos : 0 < t / (op : Int) := by omega
                    have HNX2 := hide (by have h := unhide HNX; rw [unhide HSP, if_pos hlm, if_neg hq0] at h; exact h)
                    clear HNX HSP
                    go_wp2_with fail
                    have HP0 := hide (show Round total ws (pay (t / (op : Int)) ws os 0 t).1 (pay (t / (op : Int)) ws os 0 t).2 ∧ (pay (t / (op : Int)) ws os 0 t).2 < t from unhide HNX2)
                    go_loopw [0, 13, 95] (fun x y i wx => ∃ (m : Nat) (t1 one : Int) (gs : List Int), m ≤ j ∧ i = .int .i64 m ∧ x = .int .i64 t1 ∧ y = .int .i64 one ∧ t - 1048576 * m ≤ t1 ∧ t1 ≤ t ∧ 0 ≤ one ∧ one ≤ 1048576 ∧ gs.length = m ∧ RowW w wx w.heap.size (gs ++ os.drop m) ∧ Hid ((gs ++ (pay (t / (op : Int)) (ws.drop m) (os.drop m) one t1).1, (pay (t / (op : Int)) (ws.drop m) (os.drop m) one t1).2) = pay (t / (op : Int)) ws os 0 t)) (fun _ _ i _ => j - (intOf i).toNat)
                    case atStart => exact ⟨0, t, 0, [], Nat.zero_le _, rfl, rfl, rfl, by omega, by omega, by omega, by omega, rfl, unhide HRW', rfl⟩
                    case round =>
                      obtain ⟨m, t1, one, gs, hmj, rfl, rfl, rfl, ht2, ht3, hone0, hone1, hgs, HRX, HI⟩ := hrel
                      by_cases hlt : m < j
                      · obtain ⟨b, ob, z, rfl, _, hz, hc⟩ := at_num ((unhide HR).below (HRX.2.1.mono hB)) hlt
                        obtain ⟨o, ho⟩ : ∃ o, os[m]? = some o := ⟨_, List.getElem?_eq_getElem (by rw [unhide HLO]; exact hlt)⟩
                        have hdo := drop_cons os m o ho
                        have hco := HRX.cell (k := m) (o := o) (by rw [List.getElem?_append_right (by omega), hgs, Nat.sub_self, hdo]; rfl)
                        have hfr := HRX.frozen m
                        have hbd := unhide HBD m z o hz ho
                        have HI2 := hide (show (gs ++ (pay (t / (op : Int)) (z :: ws.drop (m + 1)) (o :: os.drop (m + 1)) one t1).1, (pay (t / (op : Int)) (z :: ws.drop (m + 1)) (o :: os.drop (m + 1)) one t1).2) = pay (t / (op : Int)) ws os 0 t by
                          have h := unhide HI
                          rwa [drop_cons ws m z hz, hdo] at h)
                        have HRX1 := hide (show RowW w wr w.heap.size (gs ++ o :: os.drop (m + 1)) by rw [← hdo]; exact HRX)
                        have HRX2 := hide (show RowW w wr w.heap.size ((gs ++ [o]) ++ os.drop (m + 1)) by simpa using unhide HRX1)
                        have hgl : ∀ x : Int, (gs ++ [x]).length = m + 1 := fun x => by simp [hgs]
                        clear HI hz ho HRX hdo
                        by_cases hoz : o < z
                        · skip
                          have HI3 := hide (show ((gs ++ [o + (t / (op : Int))]) ++ (pay (t / (op : Int)) (ws.drop (m + 1)) (os.drop (m + 1)) one (t1 - (t / (op : Int)))).1, (pay (t / (op : Int)) (ws.drop (m + 1)) (os.drop (m + 1)) one (t1 - (t / (op : Int)))).2) = pay (t / (op : Int)) ws os 0 t by
                            have h := unhide HI2
                            rw [pay, if_pos hoz, if_pos hpos] at h
                            simpa using h)
                          clear HI2
                          have HRX3 := hide ((unhide HRX1).set_ m hgs (o + (t / (op : Int))))
                          clear HRX1 HRX2
                          go_wp2_with fail
                          go_roundw
                          case rel => exact ⟨m + 1, (t1 - (t / (op : Int))), one, gs ++ [o + (t / (op : Int))], by omega, by go_num, rfl, rfl, by omega, by omega, by omega, by omega, hgl _, unhide HRX3, unhide HI3⟩
                          case measure => simp [intOf]; omega
                        · skip
                          have HI3 := hide (show ((gs ++ [o]) ++ (pay (t / (op : Int)) (ws.drop (m + 1)) (os.drop (m + 1)) one t1).1, (pay (t / (op : Int)) (ws.drop (m + 1)) (os.drop (m + 1)) one t1).2) = pay (t / (op : Int)) ws os 0 t by
                            have h := unhide HI2
                            rw [pay, if_neg hoz] at h
                            simpa using h)
                          clear HI2
                          have HRX3 := hide (unhide HRX2)
                          clear HRX1 HRX2
                          go_wp2_with fail
                          go_roundw
                          case rel => exact ⟨m + 1, t1, one, gs ++ [o], by omega, by go_num, rfl, rfl, by omega, by omega, by omega, by omega, hgl _, unhide HRX3, unhide HI3⟩
                          case measure => simp [intOf]; omega
                      · obtain rfl : m = j := by omega
                        have HFIN := hide (show (gs, t1) = pay (t / (op : Int)) ws os 0 t by
                          have h := unhide HI
                          rw [List.drop_of_length_le (l := ws) (by rw [unhide HL]; omega), pay_nil, List.append_nil] at h
                          exact h)
                        have HRY := hide (show RowW w wr w.heap.size gs by
                          have h := HRX
                          rw [List.drop_of_length_le (l := os) (by rw [unhide HLO]; omega), List.append_nil] at h
                          exact h)
                        have HRD := hide (show Round total ws gs t1 ∧ t1 < t by have h := unhide HP0; rw [← unhide HFIN] at h; exact h)
                        clear HI HRX HFIN htb hob hot hmul hdiv hmu hdv hsb hlm
                        go_wp2_with fail
                        go_roundw
                        case rel => exact ⟨t1, gs, rfl, unhide HRY, (unhide HRD).1⟩
                        case measure =>
                          have h := (unhide HRD).2
                          simp [intOf]; omega
                · have hpos : 0 < st := hstp0
                  have HNX2 := hide (by have h := unhide HNX; rw [unhide HSP, if_neg hlm, if_neg (by omega)] at h; exact h)
                  clear HNX HSP
                  go_wp2_with fail
                  have HP0 := hide (show Round total ws (pay st ws os 0 t).1 (pay st ws os 0 t).2 ∧ (pay st ws os 0 t).2 < t from unhide HNX2)
                  go_loopw [0, 13, 95] (fun x y i wx => ∃ (m : Nat) (t1 one : Int) (gs : List Int), m ≤ j ∧ i = .int .i64 m ∧ x = .int .i64 t1 ∧ y = .int .i64 one ∧ t - 1048576 * m ≤ t1 ∧ t1 ≤ t ∧ 0 ≤ one ∧ one ≤ 1048576 ∧ gs.length = m ∧ RowW w wx w.heap.size (gs ++ os.drop m) ∧ Hid ((gs ++ (pay st (ws.drop m) (os.drop m) one t1).1, (pay st (ws.drop m) (os.drop m) one t1).2) = pay st ws os 0 t)) (fun _ _ i _ => j - (intOf i).toNat)
                  case atStart => exact ⟨0, t, 0, [], Nat.zero_le _, rfl, rfl, rfl, by omega, by omega, by omega, by omega, rfl, unhide HRW', rfl⟩
                  case round =>
                    obtain ⟨m, t1, one, gs, hmj, rfl, rfl, rfl, ht2, ht3, hone0, hone1, hgs, HRX, HI⟩ := hrel
                    by_cases hlt : m < j
                    · obtain ⟨b, ob, z, rfl, _, hz, hc⟩ := at_num ((unhide HR).below (HRX.2.1.mono hB)) hlt
                      obtain ⟨o, ho⟩ : ∃ o, os[m]? = some o := ⟨_, List.getElem?_eq_getElem (by rw [unhide HLO]; exact hlt)⟩
                      have hdo := drop_cons os m o ho
                      have hco := HRX.cell (k := m) (o := o) (by rw [List.getElem?_append_right (by omega), hgs, Nat.sub_self, hdo]; rfl)
                      have hfr := HRX.frozen m
                      have hbd := unhide HBD m z o hz ho
                      have HI2 := hide (show (gs ++ (pay st (z :: ws.drop (m + 1)) (o :: os.drop (m + 1)) one t1).1, (pay st (z :: ws.drop (m + 1)) (o :: os.drop (m + 1)) one t1).2) = pay st ws os 0 t by
                        have h := unhide HI
                        rwa [drop_cons ws m z hz, hdo] at h)
                      have HRX1 := hide (show RowW w wr w.heap.size (gs ++ o :: os.drop (m + 1)) by rw [← hdo]; exact HRX)
                      have HRX2 := hide (show RowW w wr w.heap.size ((gs ++ [o]) ++ os.drop (m + 1)) by simpa using unhide HRX1)
                      have hgl : ∀ x : Int, (gs ++ [x]).length = m + 1 := fun x => by simp [hgs]
                      clear HI hz ho HRX hdo
                      by_cases hoz : o < z
                      · skip
                        have HI3 := hide (show ((gs ++ [o + st]) ++ (pay st (ws.drop (m + 1)) (os.drop (m + 1)) one (t1 - st)).1, (pay st (ws.drop (m + 1)) (os.drop (m + 1)) one (t1 - st)).2) = pay st ws os 0 t by
                          have h := unhide HI2
                          rw [pay, if_pos hoz, if_pos hpos] at h
                          simpa using h)
                        clear HI2
                        have HRX3 := hide ((unhide HRX1).set_ m hgs (o + st))
                        clear HRX1 HRX2
                        go_wp2_with fail
                        go_roundw
                        case rel => exact ⟨m + 1, (t1 - st), one, gs ++ [o + st], by omega, by go_num, rfl, rfl, by omega, by omega, by omega, by omega, hgl _, unhide HRX3, unhide HI3⟩
                        case measure => simp [intOf]; omega
                      · skip
                        have HI3 := hide (show ((gs ++ [o]) ++ (pay st (ws.drop (m + 1)) (os.drop (m + 1)) one t1).1, (pay st (ws.drop (m + 1)) (os.drop (m + 1)) one t1).2) = pay st ws os 0 t by
                          have h := unhide HI2
                          rw [pay, if_neg hoz] at h
                          simpa using h)
                        clear HI2
                        have HRX3 := hide (unhide HRX2)
                        clear HRX1 HRX2
                        go_wp2_with fail
                        go_roundw
                        case rel => exact ⟨m + 1, t1, one, gs ++ [o], by omega, by go_num, rfl, rfl, by omega, by omega, by omega, by omega, hgl _, unhide HRX3, unhide HI3⟩
                        case measure => simp [intOf]; omega
                    · obtain rfl : m = j := by omega
                      have HFIN := hide (show (gs, t1) = pay st ws os 0 t by
                        have h := unhide HI
                        rw [List.drop_of_length_le (l := ws) (by rw [unhide HL]; omega), pay_nil, List.append_nil] at h
                        exact h)
                      have HRY := hide (show RowW w wr w.heap.size gs by
                        have h := HRX
                        rw [List.drop_of_length_le (l := os) (by rw [unhide HLO]; omega), List.append_nil] at h
                        exact h)
                      have HRD := hide (show Round total ws gs t1 ∧ t1 < t by have h := unhide HP0; rw [← unhide HFIN] at h; exact h)
                      clear HI HRX HFIN htb hob hot hmul hdiv hmu hdv hsb hlm
                      go_wp2_with fail
                      go_roundw
                      case rel => exact ⟨t1, gs, rfl, unhide HRY, (unhide HRD).1⟩
                      case measure =>
                        have h := (unhide HRD).2
                        simp [intOf]; omega
end Go.Proofs.Ytiljallignlbgaa
