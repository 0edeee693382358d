/- The contract of the reference's ClockPlayed. Conditions: none beyond what each theorem states. -/
import Derived.Test.YtickpflebmecpaaClockG
namespace Go.Proofs.Ytickpflebmecpaa
open Go.RowKit
set_option linter.unusedVariables false

theorem whoF_at {es : List Ev} {j : Nat} {x : Ev} (h : es[j]? = some x) : whoF es j = x.w := by unfold whoF; rw [List.getD_eq_getElem?_getD, h]; rfl

set_option maxRecDepth 100000 in
set_option maxHeartbeats 6000000 in
theorem clockPlay_ref (sites : Int) (A : Option Addr) (n c : Nat) (es : List Ev) (B : Nat) (w : World) (hl : es.length = n) (hnc : n ≤ c) (hcm : c ≤ maxLen) (hr : Reads w B 3 A n (es.flatMap Ev.cells)) (hB : B ≤ w.heap.size) :
    Calls Try.prog 15 #[.int .i64 sites, .slice A n c] w fun e w' => TabPost w.heap.size (playR sites es) e w w' := by
  obtain ⟨i0, hi, hi0, hi1, hi2⟩ := int_info
  obtain ⟨ir, hir, hr0, hr1, hr2⟩ := row_info
  obtain ⟨ib, hib, hb0, hb1, hb2⟩ := bool_info
  obtain ⟨iq, hiq, hq0, hq1', hq2⟩ := boolrow_info
  have hm : n ≤ 9223372036854775807 := by unfold maxLen at hcm; omega
  have HL := hide hl
  have HR := hide (hr.more hB)
  clear hr hl
  by_cases h1 : sites < 1
  · have HF := hide (play_range (es := es) (.inl h1))
    go_enter Try.func15, Try.ntmps15
    go_wp2_with fail
    go_ret2
    rw [unhide HF]
    exact tabPost_nil _ _ _ (Below.refl _ _)
  by_cases h2 : 8 < sites
  · have HF := hide (play_range (es := es) (.inr h2))
    have h1' : 1 ≤ sites := by omega
    clear h1
    go_enter Try.func15, Try.ntmps15
    go_wp2_with fail
    go_ret2
    rw [unhide HF]
    exact tabPost_nil _ _ _ (Below.refl _ _)
  obtain ⟨s, rfl⟩ := Int.eq_ofNat_of_zero_le (show 0 ≤ sites by omega)
  have hs1 : 1 ≤ s := by omega
  have hs8 : s ≤ 8 := by omega
  have h1' : (1 : Int) ≤ (s : Int) := by omega
  have h2' : (s : Int) ≤ 8 := by omega
  by_cases h3 : 200 < n
  · have HF := hide (play_long (es := es) h1' h2' (by rw [unhide HL]; exact h3))
    have h3' : (200 : Int) < (n : Int) := by omega
    clear h1 h2
    go_enter Try.func15, Try.ntmps15
    go_wp2_with fail
    go_ret2
    rw [unhide HF]
    exact tabPost_nil _ _ _ (Below.refl _ _)
  have h3' : (n : Int) ≤ 200 := by omega
  have hn2 : n ≤ 200 := by omega
  have hmk := fun W => run_make_rowN (P := Try.prog) 22 3 i0 _ Try.underlying22 hi hi0 .i64 .i64 s s (Nat.le_refl _) (by rw [hi2]; omega) (by omega) W
  rw [hi1, Nat.mul_one] at hmk
  have hmk2 := fun W => run_make_rowN (P := Try.prog) 45 4 ib _ Try.underlying45 hib hb0 .i64 .i64 n n (Nat.le_refl _) (by rw [hb2]; omega) (by omega) W
  rw [hb1, Nat.mul_one] at hmk2
  clear h1 h2 h3
  go_enter Try.func15, Try.ntmps15
  go_wp2_with fail
  go_loopw [6, 7, 26] (fun hv ov i wr => ∃ (m : Nat), m ≤ n ∧ i = .int .i64 m ∧ Hid (HangSt w wr es n m hv) ∧ Hid (OutSt w wr es s m ov) ∧ Hid (∀ j, j < m → okE s es j = 0) ∧ Below w.heap.size w wr) (fun _ _ i _ => n - (intOf i).toNat)
  case atStart => exact ⟨0, Nat.zero_le _, rfl, HangSt.start _ _ _ _, OutSt.start _ _ _ _, fun j hj => by omega, Below.refl _ _⟩
  case round =>
    obtain ⟨m, hm1, rfl, HH, HO, HK, hbw⟩ := hrel
    have hbl := hbw.size
    by_cases hlt : m < n
    · obtain ⟨b, o, x, rfl, hbx, hx, hcx⟩ := at_row (size := 3) (fun x => (rfl : (Ev.cells x).length = 3)) (by omega) ((unhide HR).below hbw) hlt (unhide HL)
      have e0 := hcx 0 _ rfl
      have e1 := hcx 1 _ rfl
      have e2 := hcx 2 _ rfl
      simp only [Nat.add_zero] at e0
      have HG := hide (show es.getD m default = x by rw [List.getD_eq_getElem?_getD, hx]; rfl)
      obtain ⟨xk, xw, xo⟩ := x
      dsimp only at e0 e1 e2
      have hlt1 : (m : Int) < (n : Int) := by omega
      have HX := hide hx
      clear hx hcx
      obtain ⟨wo, hwo⟩ : ∃ wo : World, wo = wr := ⟨_, rfl⟩
      subst hwo
      obtain ⟨wx, hwx⟩ : ∃ wx, wx = wo.alloc (.cells #[.int .i64 xk, .int .i64 xw, .int .i64 xo] 41) := ⟨_, rfl⟩
      have hbx2 : Below wo.heap.size wo wx := by rw [hwx]; exact (Below.refl _ _).alloc (Nat.le_refl _) _
      have hkx : Blk wx wo.heap.size 41 #[.int .i64 xk, .int .i64 xw, .int .i64 xo] := by rw [hwx]; exact Blk.new wo 41 _
      have hsx : wx.heap.size = wo.heap.size + 1 := by rw [hwx]; simp
      have HSX := hide hsx
      have q0 : ∀ W, Below wx.heap.size wx W → W.cell? ⟨wo.heap.size, 0, none⟩ = some (.int .i64 xk) := fun W hW => (Blk.below hkx hW (by omega)).cell 0
      have q1 : ∀ W, Below wx.heap.size wx W → W.cell? ⟨wo.heap.size, 1, none⟩ = some (.int .i64 xw) := fun W hW => (Blk.below hkx hW (by omega)).cell 1
      have q2 : ∀ W, Below wx.heap.size wx W → W.cell? ⟨wo.heap.size, 2, none⟩ = some (.int .i64 xo) := fun W hW => (Blk.below hkx hW (by omega)).cell 2
      have p0 := q0 wx (Below.refl _ _)
      have p1 := q1 wx (Below.refl _ _)
      have p2 := q2 wx (Below.refl _ _)
      rw [hwx] at p0 p1 p2
      have HWX := hide hwx
      have HBX := hide hbx2
      have HBW := hide hbw
      have hodd : ∀ r, okE s es m = r → r ≠ 0 → playR s es = ([], r) := fun r hr hn => play_bad h1' h2' (by rw [unhide HL]; exact hn2) (k := m) (by rw [unhide HL]; exact hlt) (unhide HK) hr hn
      have hok : okE s es m = oddP s (es.take m) ⟨xk, xw, xo⟩ := by unfold okE; rw [unhide HG]
      rw [hok] at hodd
      have HOK := hide hok
      have HODD := hide hodd
      have HBXW := hide (hbw.trans (hbx2.mono hbl))
      have htl : (es.take m).length = m := by rw [List.length_take, unhide HL]; omega
      have HTL := hide htl
      clear hwx hbx2 hkx hsx hbw hok hodd htl
      by_cases hk1 : xk < 1 ∨ 3 < xk
      · have HF := hide (unhide HODD 3 (by unfold oddP; rw [if_pos hk1]) (by decide))
        have hb1 : (xk != 1) = true := by simp; omega
        have hb2 : (xk != 2) = true := by simp; omega
        have hb3 : (xk != 3) = true := by simp; omega
        clear hk1
        go_wp2_with fail
        go_ret2
        rw [unhide HF]
        exact tabPost_nil _ _ _ (by rw [← unhide HWX]; exact unhide HBXW)
      by_cases hw1 : xw < 0
      · have HF := hide (unhide HODD 2 (by unfold oddP; rw [if_neg hk1, if_pos (.inl hw1)]) (by decide))
        obtain rfl | rfl | rfl : xk = 1 ∨ xk = 2 ∨ xk = 3 := by omega
        all_goals
          clear hk1
          go_wp2_with fail
          go_ret2
          rw [unhide HF]
          exact tabPost_nil _ _ _ (by rw [← unhide HWX]; exact unhide HBXW)
      have hw1' : 0 ≤ xw := by omega
      by_cases hw2 : (s : Int) ≤ xw
      · have HF := hide (unhide HODD 2 (by unfold oddP; rw [if_neg hk1, if_pos (.inr hw2)]) (by decide))
        obtain rfl | rfl | rfl : xk = 1 ∨ xk = 2 ∨ xk = 3 := by omega
        all_goals
          clear hk1 hw1
          go_wp2_with fail
          go_ret2
          rw [unhide HF]
          exact tabPost_nil _ _ _ (by rw [← unhide HWX]; exact unhide HBXW)
      have hw2' : xw < (s : Int) := by omega
      have HNW := hide (show ¬ (xw < 0 ∨ (s : Int) ≤ xw) by omega)
      clear hw1 hw2
      obtain ⟨p, rfl⟩ := Int.eq_ofNat_of_zero_le hw1'
      have hp : p < s := by omega
      have hd1 : decide (s ≤ p) = false := decide_eq_false (by omega)
      have hd2 : decide ((p : Int) < 0) = false := decide_eq_false (by omega)
      have HWH := hide (show whoF es m = (p : Int) by unfold whoF; rw [unhide HG])
      have hmd : (madeCells #[Value.bool false] n)[m]? = some (.bool false) := by
        rw [← Array.getElem?_toList, toList_madeCells_one, List.getElem?_replicate, if_pos hlt]
      have HSTART := hide (show BRow ((wo.alloc (.cells #[.int .i64 xk, .int .i64 p, .int .i64 xo] 41)).alloc (.cells ((madeCells #[Value.bool false] n).setIfInBounds m (.bool true)) 4)) (wo.heap.size + 1) n (stageB es m 0) by
        have h := Blk.new (wo.alloc (.cells #[.int .i64 xk, .int .i64 p, .int .i64 xo] 41)) 4 ((madeCells #[Value.bool false] n).setIfInBounds m (.bool true))
        have e : (madeCells #[Value.bool false] n).setIfInBounds m (.bool true) = ((List.range n).map fun j => Value.bool (stageB es m 0 j)).toArray := by
          rw [← Array.toList_inj]
          simp only [Array.toList_setIfInBounds]
          rw [toList_madeCells_one, show List.replicate n (Value.bool false) = (List.range n).map (fun _ => Value.bool false) by rw [List.map_const', List.length_range]]
          exact set_map_range _ _ _ _ _ (fun _ => by simp [stageB]) (fun q _ hq => by simp [stageB, hq])
        rw [e] at h ⊢
        have hs : (wo.alloc (.cells #[.int .i64 xk, .int .i64 p, .int .i64 xo] 41)).heap.size = wo.heap.size + 1 := by simp
        rw [hs] at h
        exact h)
      obtain rfl | rfl | rfl : xk = 1 ∨ xk = 2 ∨ xk = 3 := by omega
      · have HSRC := hide (show srcF es m = none by unfold srcF; rw [unhide HG]; rfl)
        have HOKM := hide (show okE s es m = 0 by rw [unhide HOK]; unfold oddP; rw [if_neg hk1, if_neg (unhide HNW)]; rfl)
        clear hk1
        go_wp2_with fail
        obtain ⟨wz, hwz⟩ : ∃ wz, wz = (wo.alloc (.cells #[.int .i64 1, .int .i64 p, .int .i64 xo] 41)).alloc (.cells ((madeCells #[Value.bool false] n).setIfInBounds m (.bool true)) 4) := ⟨_, rfl⟩
        have hz0 : BRow wz (wo.heap.size + 1) n (stageB es m 0) := by rw [hwz]; exact unhide HSTART
        have hzb : Below wx.heap.size wx wz := by rw [hwz, ← unhide HWX]; exact (Below.refl _ _).alloc (Nat.le_refl _) _
        rw [← hwz]
        have HZ0 := hide hz0
        have HZB := hide hzb
        have hGx : wx.heap.size ≤ wo.heap.size + 1 := by rw [unhide HSX]; exact Nat.le_refl _
        have HKA := hide (show ∀ j, j ≤ m → okE s es j = 0 from fun j hj => by
          rcases Nat.lt_or_ge j m with h | h
          · exact unhide HK j h
          · obtain rfl : j = m := by omega
            exact unhide HOKM)
        clear hwz hz0 hzb HSTART p0 p1 p2 hmd e0 e1 e2 hbx
        go_loopw [11] (fun i wr => ∃ q : Nat, q ≤ m ∧ i = .int .i64 q ∧ Hid (BRow wr (wo.heap.size + 1) n (stageB es m q)) ∧ Below wx.heap.size wx wr) (fun i _ => m - (intOf i).toNat)
        case atStart => exact ⟨0, Nat.zero_le _, rfl, HZ0, unhide HZB⟩
        case round =>
          obtain ⟨q, hq, rfl, HB, hzr⟩ := hrel
          have hwrs := hzr.size
          by_cases hqm : q < m
          · obtain ⟨b', o'', y, hA, _, hy, hcy⟩ := at_row (size := 3) (fun x => (rfl : (Ev.cells x).length = 3)) (by omega) ((unhide HR).below ((unhide HBXW).trans (hzr.mono (unhide HBXW).size))) (show q < n by omega) (unhide HL)
            injection hA with hA
            injection hA with hA1 hA2
            subst hA1 hA2
            have f1 := hcy 1 _ rfl
            have HY := hide (whoF_at hy)
            obtain ⟨yk, yw, yo⟩ := y
            dsimp only at f1 HY
            obtain ⟨hb, hc, hg, hvv, ch, hbl', hgl, hrow⟩ := ((unhide HH).below (unhide HBX)).at_ hqm
            have hq1 : ∀ W, Below wx.heap.size wx W → W.cell? ⟨hb, q, none⟩ = some (.slice (some ⟨hg, 0, none⟩) n n) := fun W hW => (hW.cell (p := ⟨hb, q, none⟩) hbl').trans ch
            have HROWQ := hide (show ∀ W, Below wx.heap.size wx W → BRow W hg n (Hg (depF es) q) from fun W hW => Blk.below hrow hW hgl)
            have hqi : (q : Int) < (m : Int) := by omega
            have hqn : (q : Int) < (n : Int) := by omega
            clear hcy hy ch hrow hbl' hgl
            subst hvv
            by_cases hyw : yw = (p : Int)
            · have HDEP := hide (show depF es m q = true by unfold depF; rw [unhide HY, unhide HWH, hyw]; simp)
              subst hyw
              go_wp2_with fail
              go_quiet (fail)
              go_wp2_with fail
              have hz2 : Below wx.heap.size wx (wr.drewN nq) := below_drewN hzr nq
              have HB2 : Hid (BRow (wr.drewN nq) (wo.heap.size + 1) n (stageB es m q)) := HB
              clear hzr HB f1 hwrs
              generalize wr.drewN nq = w2 at *
              go_loopw [114] (fun i wr => ∃ j : Nat, j ≤ n ∧ i = .int .i64 j ∧ Hid (BRow wr (wo.heap.size + 1) n (fun j' => if j' < j then stageB es m (q + 1) j' else stageB es m q j')) ∧ Below wx.heap.size wx wr) (fun i _ => n - (intOf i).toNat)
              case atStart => exact ⟨0, Nat.zero_le _, rfl, (unhide HB2).congr (fun j hj => by simp), hz2⟩
              case round =>
                obtain ⟨j, hj, rfl, HB3, hz3⟩ := hrel
                by_cases hjn : j < n
                · have cj := (unhide HB3).cell hjn
                  simp only [Nat.lt_irrefl, if_false] at cj
                  have fj := Blk.frozen (unhide HB3) j
                  have cq := hq1 _ hz3
                  have cg := (unhide HROWQ _ hz3).cell hjn
                  have hjn' : (j : Int) < (n : Int) := by omega
                  have HS1 := hide (stageB_succ es m q j)
                  rw [unhide HDEP, Bool.true_and] at HS1
                  have HB4 := hide (show ∀ b, b = stageB es m (q + 1) j → BRow (wr.setCell ⟨wo.heap.size + 1, j, none⟩ (.bool b)) (wo.heap.size + 1) n (fun j' => if j' < j + 1 then stageB es m (q + 1) j' else stageB es m q j') from fun b hb => ((unhide HB3).set_ hjn b).congr fun j' hj' => by
                    by_cases e : j' = j
                    · subst e; simp [hb]
                    · by_cases h2 : j' < j
                      · simp [e, h2, show j' < j + 1 by omega]
                      · simp [e, h2, show ¬ j' < j + 1 by omega])
                  have HB5 := hide hz3
                  clear HB3 hz3
                  cases hst : stageB es m q j with
                  | true =>
                    rw [hst] at cj HS1
                    have HB6 := hide (unhide HB4 true (by rw [unhide HS1]; rfl))
                    clear HB4 HS1 hst cg
                    go_wp2_with fail
                    go_roundw
                    case rel => exact ⟨j + 1, by omega, by go_num, HB6, (unhide HB5).setCell (by show wx.heap.size ≤ wo.heap.size + 1; exact hGx) _⟩
                    case measure => simp [intOf]; omega
                  | false =>
                    rw [hst] at cj HS1
                    have HB6 := hide (unhide HB4 (Hg (depF es) q j) (by rw [unhide HS1]; rfl))
                    generalize Hg (depF es) q j = bq at *
                    clear HB4 HS1 hst
                    go_wp2_with fail
                    go_roundw
                    case rel => exact ⟨j + 1, by omega, by go_num, HB6, (unhide HB5).setCell (by show wx.heap.size ≤ wo.heap.size + 1; exact hGx) _⟩
                    case measure => simp [intOf]; omega
                · obtain rfl : j = n := by omega
                  have HB4 := hide ((unhide HB3).congr (P' := stageB es m (q + 1)) fun j' hj' => by simp [hj'])
                  have HZ3 := hide hz3
                  clear HB3 hz3
                  go_wp2_with fail
                  go_roundw
                  case rel => exact ⟨q + 1, by omega, by go_num, HB4, unhide HZ3⟩
                  case measure => simp [intOf]; omega
            · have HDEP := hide (show depF es m q = false by unfold depF; rw [unhide HY, unhide HWH, unhide HSRC]; simp [hyw])
              have hyb : (yw != (p : Int)) = true := by simpa using hyw
              have HB2 := hide ((unhide HB).congr (P' := stageB es m (q + 1)) fun j _ => by rw [stageB_succ, unhide HDEP, Bool.false_and, Bool.or_false])
              have HZ2 := hide (below_drewN hzr)
              clear HB
              go_wp2_with fail
              go_quiet (fail)
              go_wp2_with fail
              go_roundw
              case rel => exact ⟨q + 1, by omega, by go_num, HB2, unhide HZ2 nq⟩
              case measure => simp [intOf]; omega
          · obtain rfl : q = m := by omega
            have HM := hide ((unhide HB).congr (P' := Hg (depF es) q) fun j _ => stageB_last es q j)
            obtain ⟨xsh, hownh, hpushh⟩ := ((unhide HH).below ((unhide HBX).trans (hzr.mono (unhide HBX).size))).push
            have HOWNH := hide hownh
            have HPUSHH := hide hpushh
            have HBWR := hide (show Below w.heap.size w wr from (unhide HBXW).trans (hzr.mono (unhide HBXW).size))
            have HOUT := hide ((unhide HO).below ((unhide HBX).trans (hzr.mono (unhide HBX).size)))
            have hmb : (q + 1) * 24 ≤ 140737488355328 := by omega
            have hbs1 : w.heap.size ≤ wr.heap.size := (unhide HBWR).size
            have hbs2 : w.heap.size ≤ wo.heap.size + 1 := by omega
            clear hownh hpushh HB hqm hzr
            go_wp2_with (first
              | (at_builtin; (refine wpList_append_new _ rfl (.tmp 134) (.tmp 136) _ rfl w.heap.size 45 iq _ 1 24 Try.underlying44 hiq hq0 hq1' hq2 rfl (by omega) (by omega) _ _ _ (unhide HOWNH) rfl _ 1 _ rfl rfl rfl (by simp [Value.oneCell']) hmb (by omega) ?_); intro g5 cap5 w5 hg5 hown5 hbel5 hgr5 hat5))
            have HH5 := hide (unhide HPUSHH _ w5 _ hbs2 (unhide HM) hgr5 hown5)
            have HM5 := hide (show BRow w5 (wo.heap.size + 1) n (Hg (depF es) q) from Blk.grown (unhide HM) hgr5 (Ne.symm (own_blk_ne (unhide HOWNH) (unhide HM) (by decide))))
            have HO5 := hide ((unhide HOUT).grown (unhide HOWNH) (by decide) (by decide) hgr5)
            have HB5 := hide (hbel5 _ _ (Nat.le_refl _) (unhide HBWR))
            have h5s := (unhide HB5).size
            have hG5 : wo.heap.size + 1 < w5.heap.size := Blk.lt (unhide HM5)
            have HI5 := hide (irow_made w5 s)
            clear hown5 hbel5 hgr5 hat5 HM HOUT HBWR HPUSHH HOWNH
            obtain ⟨w6, hw6⟩ : ∃ w6, w6 = w5.alloc (.cells (madeCells #[Value.int .i64 0] s) 3) := ⟨_, rfl⟩
            have hb56 : Below w5.heap.size w5 w6 := by rw [hw6]; exact (Below.refl _ _).alloc (Nat.le_refl _) _
            have HI6 := hide (show IRow w6 w5.heap.size (cntRow es s (Hg (depF es) q) 0) [] by rw [hw6, cntRow_zero]; exact unhide HI5)
            rw [← hw6]
            clear hw6 HI5
            go_loopw [142] (fun i wr => ∃ j : Nat, j ≤ n ∧ i = .int .i64 j ∧ Hid (IRow wr w5.heap.size (cntRow es s (Hg (depF es) q) j) []) ∧ Below w5.heap.size w5 wr) (fun i _ => n - (intOf i).toNat)
            case atStart => exact ⟨0, Nat.zero_le _, rfl, HI6, hb56⟩
            case round =>
              obtain ⟨j, hj, rfl, HI, hzj⟩ := hrel
              by_cases hjn : j < n
              · have cj := BRow.cell (show BRow wr (wo.heap.size + 1) n (Hg (depF es) q) from Blk.below (unhide HM5) hzj hG5) hjn
                have hjn' : (j : Int) < (n : Int) := by omega
                cases hP : Hg (depF es) q j with
                | false =>
                  rw [hP] at cj
                  have HI7 := hide (show IRow wr w5.heap.size (cntRow es s (Hg (depF es) q) (j + 1)) [] by rw [cntRow_succ hP]; exact unhide HI)
                  have HZJ := hide hzj
                  clear HI hP hzj
                  go_wp2_with fail
                  go_roundw
                  case rel => exact ⟨j + 1, by omega, by go_num, HI7, unhide HZJ⟩
                  case measure => simp [intOf]; omega
                | true =>
                  rw [hP] at cj
                  have hjq := (hangsF es n).le q (by omega) j hP
                  obtain ⟨b', o'', y, hA, _, hy, hcy⟩ := at_row (size := 3) (fun x => (rfl : (Ev.cells x).length = 3)) (by omega) ((unhide HR).below ((unhide HB5).trans (hzj.mono h5s))) hjn (unhide HL)
                  injection hA with hA
                  injection hA with hA1 hA2
                  subst hA1 hA2
                  have f1 := hcy 1 _ rfl
                  have hyd : es.getD j default = y := by rw [List.getD_eq_getElem?_getD, hy]; rfl
                  have hyk := unhide HKA j hjq
                  unfold okE at hyk
                  rw [hyd] at hyk
                  obtain ⟨_, _, hy3, hy4, _⟩ := oddP_zero hyk
                  have hyw := whoF_at hy
                  obtain ⟨yk, yw, yo⟩ := y
                  dsimp only at f1 hy3 hy4 hyw
                  obtain ⟨pj, rfl⟩ := Int.eq_ofNat_of_zero_le hy3
                  obtain ⟨z, hz, hz0, hz1, hset⟩ := cntRow_inc (es := es) (s := s) (P := Hg (depF es) q) hP hyw (by omega)
                  have cz := (unhide HI).cell hz
                  have fz := IRow.frozen (unhide HI) pj
                  have HI7 := hide (show IRow (wr.setCell ⟨w5.heap.size, pj, none⟩ (.int .i64 (z + 1))) w5.heap.size (cntRow es s (Hg (depF es) q) (j + 1)) [] by
                    have h := (unhide HI).set_ (k := pj) (List.getElem?_eq_some_iff.1 hz).1 (z + 1)
                    rw [hset] at h
                    exact h)
                  have HZJ := hide hzj
                  have hz2 : z ≤ 200 := by omega
                  have hpj : (pj : Int) < (s : Int) := hy4
                  clear HI hP hzj hz hset hyk hyd hy hcy hyw hy4
                  go_wp2_with fail
                  go_roundw
                  case rel => exact ⟨j + 1, by omega, by go_num, HI7, (unhide HZJ).setCell (Nat.le_refl _) _⟩
                  case measure => simp [intOf]; omega
              · obtain rfl : j = n := by omega
                have HI7 := hide (show IRow wr w5.heap.size (clkRow es s q) [] by have h := unhide HI; rwa [cntRow_whole (by omega)] at h)
                have HO6 := hide ((unhide HO5).below hzj)
                have HH6 := hide ((unhide HH5).below hzj)
                have HB6 := hide ((unhide HB5).trans (hzj.mono h5s))
                obtain ⟨xso, howno, hpusho⟩ := (unhide HO6).push
                have HOWNO := hide howno
                have HPUSHO := hide hpusho
                have hb6s := (unhide HB6).size
                clear howno hpusho HI hzj
                go_wp2_with (first
                  | (at_builtin; (refine wpList_append_new _ rfl (.tmp 160) (.tmp 162) _ rfl w.heap.size 22 ir _ 1 24 Try.underlying31 hir hr0 hr1 hr2 rfl (by omega) (by omega) _ _ _ (unhide HOWNO) rfl _ 1 _ rfl rfl rfl (by simp [Value.oneCell']) hmb (by omega) ?_); intro g8 cap8 w8 hg8 hown8 hbel8 hgr8 hat8))
                have HO8 := hide (unhide HPUSHO _ w8 _ h5s (by unfold maxLen; omega) (unhide HI7) hgr8 hown8)
                have HH8 := hide ((unhide HH6).grown (unhide HOWNO) (by decide) (by decide) hgr8)
                have HB8 := hide (hbel8 _ _ (Nat.le_refl _) (unhide HB6))
                clear hown8 hbel8 hgr8 hat8
                go_roundw
                case rel => exact ⟨q + 1, by omega, by go_num, HH8, HO8, fun j' hj' => unhide HKA j' (by omega), unhide HB8⟩
                case measure => simp [intOf]; omega

      · have HSRC := hide (show srcF es m = none by unfold srcF; rw [unhide HG]; rfl)
        have HOKM := hide (show okE s es m = 0 by rw [unhide HOK]; unfold oddP; rw [if_neg hk1, if_neg (unhide HNW)]; rfl)
        clear hk1
        go_wp2_with fail
        obtain ⟨wz, hwz⟩ : ∃ wz, wz = (wo.alloc (.cells #[.int .i64 2, .int .i64 p, .int .i64 xo] 41)).alloc (.cells ((madeCells #[Value.bool false] n).setIfInBounds m (.bool true)) 4) := ⟨_, rfl⟩
        have hz0 : BRow wz (wo.heap.size + 1) n (stageB es m 0) := by rw [hwz]; exact unhide HSTART
        have hzb : Below wx.heap.size wx wz := by rw [hwz, ← unhide HWX]; exact (Below.refl _ _).alloc (Nat.le_refl _) _
        rw [← hwz]
        have HZ0 := hide hz0
        have HZB := hide hzb
        have hGx : wx.heap.size ≤ wo.heap.size + 1 := by rw [unhide HSX]; exact Nat.le_refl _
        have HKA := hide (show ∀ j, j ≤ m → okE s es j = 0 from fun j hj => by
          rcases Nat.lt_or_ge j m with h | h
          · exact unhide HK j h
          · obtain rfl : j = m := by omega
            exact unhide HOKM)
        clear hwz hz0 hzb HSTART p0 p1 p2 hmd e0 e1 e2 hbx
        go_loopw [11] (fun i wr => ∃ q : Nat, q ≤ m ∧ i = .int .i64 q ∧ Hid (BRow wr (wo.heap.size + 1) n (stageB es m q)) ∧ Below wx.heap.size wx wr) (fun i _ => m - (intOf i).toNat)
        case atStart => exact ⟨0, Nat.zero_le _, rfl, HZ0, unhide HZB⟩
        case round =>
          obtain ⟨q, hq, rfl, HB, hzr⟩ := hrel
          have hwrs := hzr.size
          by_cases hqm : q < m
          · obtain ⟨b', o'', y, hA, _, hy, hcy⟩ := at_row (size := 3) (fun x => (rfl : (Ev.cells x).length = 3)) (by omega) ((unhide HR).below ((unhide HBXW).trans (hzr.mono (unhide HBXW).size))) (show q < n by omega) (unhide HL)
            injection hA with hA
            injection hA with hA1 hA2
            subst hA1 hA2
            have f1 := hcy 1 _ rfl
            have HY := hide (whoF_at hy)
            obtain ⟨yk, yw, yo⟩ := y
            dsimp only at f1 HY
            obtain ⟨hb, hc, hg, hvv, ch, hbl', hgl, hrow⟩ := ((unhide HH).below (unhide HBX)).at_ hqm
            have hq1 : ∀ W, Below wx.heap.size wx W → W.cell? ⟨hb, q, none⟩ = some (.slice (some ⟨hg, 0, none⟩) n n) := fun W hW => (hW.cell (p := ⟨hb, q, none⟩) hbl').trans ch
            have HROWQ := hide (show ∀ W, Below wx.heap.size wx W → BRow W hg n (Hg (depF es) q) from fun W hW => Blk.below hrow hW hgl)
            have hqi : (q : Int) < (m : Int) := by omega
            have hqn : (q : Int) < (n : Int) := by omega
            clear hcy hy ch hrow hbl' hgl
            subst hvv
            by_cases hyw : yw = (p : Int)
            · have HDEP := hide (show depF es m q = true by unfold depF; rw [unhide HY, unhide HWH, hyw]; simp)
              subst hyw
              go_wp2_with fail
              go_quiet (fail)
              go_wp2_with fail
              have hz2 : Below wx.heap.size wx (wr.drewN nq) := below_drewN hzr nq
              have HB2 : Hid (BRow (wr.drewN nq) (wo.heap.size + 1) n (stageB es m q)) := HB
              clear hzr HB f1 hwrs
              generalize wr.drewN nq = w2 at *
              go_loopw [114] (fun i wr => ∃ j : Nat, j ≤ n ∧ i = .int .i64 j ∧ Hid (BRow wr (wo.heap.size + 1) n (fun j' => if j' < j then stageB es m (q + 1) j' else stageB es m q j')) ∧ Below wx.heap.size wx wr) (fun i _ => n - (intOf i).toNat)
              case atStart => exact ⟨0, Nat.zero_le _, rfl, (unhide HB2).congr (fun j hj => by simp), hz2⟩
              case round =>
                obtain ⟨j, hj, rfl, HB3, hz3⟩ := hrel
                by_cases hjn : j < n
                · have cj := (unhide HB3).cell hjn
                  simp only [Nat.lt_irrefl, if_false] at cj
                  have fj := Blk.frozen (unhide HB3) j
                  have cq := hq1 _ hz3
                  have cg := (unhide HROWQ _ hz3).cell hjn
                  have hjn' : (j : Int) < (n : Int) := by omega
                  have HS1 := hide (stageB_succ es m q j)
                  rw [unhide HDEP, Bool.true_and] at HS1
                  have HB4 := hide (show ∀ b, b = stageB es m (q + 1) j → BRow (wr.setCell ⟨wo.heap.size + 1, j, none⟩ (.bool b)) (wo.heap.size + 1) n (fun j' => if j' < j + 1 then stageB es m (q + 1) j' else stageB es m q j') from fun b hb => ((unhide HB3).set_ hjn b).congr fun j' hj' => by
                    by_cases e : j' = j
                    · subst e; simp [hb]
                    · by_cases h2 : j' < j
                      · simp [e, h2, show j' < j + 1 by omega]
                      · simp [e, h2, show ¬ j' < j + 1 by omega])
                  have HB5 := hide hz3
                  clear HB3 hz3
                  cases hst : stageB es m q j with
                  | true =>
                    rw [hst] at cj HS1
                    have HB6 := hide (unhide HB4 true (by rw [unhide HS1]; rfl))
                    clear HB4 HS1 hst cg
                    go_wp2_with fail
                    go_roundw
                    case rel => exact ⟨j + 1, by omega, by go_num, HB6, (unhide HB5).setCell (by show wx.heap.size ≤ wo.heap.size + 1; exact hGx) _⟩
                    case measure => simp [intOf]; omega
                  | false =>
                    rw [hst] at cj HS1
                    have HB6 := hide (unhide HB4 (Hg (depF es) q j) (by rw [unhide HS1]; rfl))
                    generalize Hg (depF es) q j = bq at *
                    clear HB4 HS1 hst
                    go_wp2_with fail
                    go_roundw
                    case rel => exact ⟨j + 1, by omega, by go_num, HB6, (unhide HB5).setCell (by show wx.heap.size ≤ wo.heap.size + 1; exact hGx) _⟩
                    case measure => simp [intOf]; omega
                · obtain rfl : j = n := by omega
                  have HB4 := hide ((unhide HB3).congr (P' := stageB es m (q + 1)) fun j' hj' => by simp [hj'])
                  have HZ3 := hide hz3
                  clear HB3 hz3
                  go_wp2_with fail
                  go_roundw
                  case rel => exact ⟨q + 1, by omega, by go_num, HB4, unhide HZ3⟩
                  case measure => simp [intOf]; omega
            · have HDEP := hide (show depF es m q = false by unfold depF; rw [unhide HY, unhide HWH, unhide HSRC]; simp [hyw])
              have hyb : (yw != (p : Int)) = true := by simpa using hyw
              have HB2 := hide ((unhide HB).congr (P' := stageB es m (q + 1)) fun j _ => by rw [stageB_succ, unhide HDEP, Bool.false_and, Bool.or_false])
              have HZ2 := hide (below_drewN hzr)
              clear HB
              go_wp2_with fail
              go_quiet (fail)
              go_wp2_with fail
              go_roundw
              case rel => exact ⟨q + 1, by omega, by go_num, HB2, unhide HZ2 nq⟩
              case measure => simp [intOf]; omega
          · obtain rfl : q = m := by omega
            have HM := hide ((unhide HB).congr (P' := Hg (depF es) q) fun j _ => stageB_last es q j)
            obtain ⟨xsh, hownh, hpushh⟩ := ((unhide HH).below ((unhide HBX).trans (hzr.mono (unhide HBX).size))).push
            have HOWNH := hide hownh
            have HPUSHH := hide hpushh
            have HBWR := hide (show Below w.heap.size w wr from (unhide HBXW).trans (hzr.mono (unhide HBXW).size))
            have HOUT := hide ((unhide HO).below ((unhide HBX).trans (hzr.mono (unhide HBX).size)))
            have hmb : (q + 1) * 24 ≤ 140737488355328 := by omega
            have hbs1 : w.heap.size ≤ wr.heap.size := (unhide HBWR).size
            have hbs2 : w.heap.size ≤ wo.heap.size + 1 := by omega
            clear hownh hpushh HB hqm hzr
            go_wp2_with (first
              | (at_builtin; (refine wpList_append_new _ rfl (.tmp 134) (.tmp 136) _ rfl w.heap.size 45 iq _ 1 24 Try.underlying44 hiq hq0 hq1' hq2 rfl (by omega) (by omega) _ _ _ (unhide HOWNH) rfl _ 1 _ rfl rfl rfl (by simp [Value.oneCell']) hmb (by omega) ?_); intro g5 cap5 w5 hg5 hown5 hbel5 hgr5 hat5))
            have HH5 := hide (unhide HPUSHH _ w5 _ hbs2 (unhide HM) hgr5 hown5)
            have HM5 := hide (show BRow w5 (wo.heap.size + 1) n (Hg (depF es) q) from Blk.grown (unhide HM) hgr5 (Ne.symm (own_blk_ne (unhide HOWNH) (unhide HM) (by decide))))
            have HO5 := hide ((unhide HOUT).grown (unhide HOWNH) (by decide) (by decide) hgr5)
            have HB5 := hide (hbel5 _ _ (Nat.le_refl _) (unhide HBWR))
            have h5s := (unhide HB5).size
            have hG5 : wo.heap.size + 1 < w5.heap.size := Blk.lt (unhide HM5)
            have HI5 := hide (irow_made w5 s)
            clear hown5 hbel5 hgr5 hat5 HM HOUT HBWR HPUSHH HOWNH
            obtain ⟨w6, hw6⟩ : ∃ w6, w6 = w5.alloc (.cells (madeCells #[Value.int .i64 0] s) 3) := ⟨_, rfl⟩
            have hb56 : Below w5.heap.size w5 w6 := by rw [hw6]; exact (Below.refl _ _).alloc (Nat.le_refl _) _
            have HI6 := hide (show IRow w6 w5.heap.size (cntRow es s (Hg (depF es) q) 0) [] by rw [hw6, cntRow_zero]; exact unhide HI5)
            rw [← hw6]
            clear hw6 HI5
            go_loopw [142] (fun i wr => ∃ j : Nat, j ≤ n ∧ i = .int .i64 j ∧ Hid (IRow wr w5.heap.size (cntRow es s (Hg (depF es) q) j) []) ∧ Below w5.heap.size w5 wr) (fun i _ => n - (intOf i).toNat)
            case atStart => exact ⟨0, Nat.zero_le _, rfl, HI6, hb56⟩
            case round =>
              obtain ⟨j, hj, rfl, HI, hzj⟩ := hrel
              by_cases hjn : j < n
              · have cj := BRow.cell (show BRow wr (wo.heap.size + 1) n (Hg (depF es) q) from Blk.below (unhide HM5) hzj hG5) hjn
                have hjn' : (j : Int) < (n : Int) := by omega
                cases hP : Hg (depF es) q j with
                | false =>
                  rw [hP] at cj
                  have HI7 := hide (show IRow wr w5.heap.size (cntRow es s (Hg (depF es) q) (j + 1)) [] by rw [cntRow_succ hP]; exact unhide HI)
                  have HZJ := hide hzj
                  clear HI hP hzj
                  go_wp2_with fail
                  go_roundw
                  case rel => exact ⟨j + 1, by omega, by go_num, HI7, unhide HZJ⟩
                  case measure => simp [intOf]; omega
                | true =>
                  rw [hP] at cj
                  have hjq := (hangsF es n).le q (by omega) j hP
                  obtain ⟨b', o'', y, hA, _, hy, hcy⟩ := at_row (size := 3) (fun x => (rfl : (Ev.cells x).length = 3)) (by omega) ((unhide HR).below ((unhide HB5).trans (hzj.mono h5s))) hjn (unhide HL)
                  injection hA with hA
                  injection hA with hA1 hA2
                  subst hA1 hA2
                  have f1 := hcy 1 _ rfl
                  have hyd : es.getD j default = y := by rw [List.getD_eq_getElem?_getD, hy]; rfl
                  have hyk := unhide HKA j hjq
                  unfold okE at hyk
                  rw [hyd] at hyk
                  obtain ⟨_, _, hy3, hy4, _⟩ := oddP_zero hyk
                  have hyw := whoF_at hy
                  obtain ⟨yk, yw, yo⟩ := y
                  dsimp only at f1 hy3 hy4 hyw
                  obtain ⟨pj, rfl⟩ := Int.eq_ofNat_of_zero_le hy3
                  obtain ⟨z, hz, hz0, hz1, hset⟩ := cntRow_inc (es := es) (s := s) (P := Hg (depF es) q) hP hyw (by omega)
                  have cz := (unhide HI).cell hz
                  have fz := IRow.frozen (unhide HI) pj
                  have HI7 := hide (show IRow (wr.setCell ⟨w5.heap.size, pj, none⟩ (.int .i64 (z + 1))) w5.heap.size (cntRow es s (Hg (depF es) q) (j + 1)) [] by
                    have h := (unhide HI).set_ (k := pj) (List.getElem?_eq_some_iff.1 hz).1 (z + 1)
                    rw [hset] at h
                    exact h)
                  have HZJ := hide hzj
                  have hz2 : z ≤ 200 := by omega
                  have hpj : (pj : Int) < (s : Int) := hy4
                  clear HI hP hzj hz hset hyk hyd hy hcy hyw hy4
                  go_wp2_with fail
                  go_roundw
                  case rel => exact ⟨j + 1, by omega, by go_num, HI7, (unhide HZJ).setCell (Nat.le_refl _) _⟩
                  case measure => simp [intOf]; omega
              · obtain rfl : j = n := by omega
                have HI7 := hide (show IRow wr w5.heap.size (clkRow es s q) [] by have h := unhide HI; rwa [cntRow_whole (by omega)] at h)
                have HO6 := hide ((unhide HO5).below hzj)
                have HH6 := hide ((unhide HH5).below hzj)
                have HB6 := hide ((unhide HB5).trans (hzj.mono h5s))
                obtain ⟨xso, howno, hpusho⟩ := (unhide HO6).push
                have HOWNO := hide howno
                have HPUSHO := hide hpusho
                have hb6s := (unhide HB6).size
                clear howno hpusho HI hzj
                go_wp2_with (first
                  | (at_builtin; (refine wpList_append_new _ rfl (.tmp 160) (.tmp 162) _ rfl w.heap.size 22 ir _ 1 24 Try.underlying31 hir hr0 hr1 hr2 rfl (by omega) (by omega) _ _ _ (unhide HOWNO) rfl _ 1 _ rfl rfl rfl (by simp [Value.oneCell']) hmb (by omega) ?_); intro g8 cap8 w8 hg8 hown8 hbel8 hgr8 hat8))
                have HO8 := hide (unhide HPUSHO _ w8 _ h5s (by unfold maxLen; omega) (unhide HI7) hgr8 hown8)
                have HH8 := hide ((unhide HH6).grown (unhide HOWNO) (by decide) (by decide) hgr8)
                have HB8 := hide (hbel8 _ _ (Nat.le_refl _) (unhide HB6))
                clear hown8 hbel8 hgr8 hat8
                go_roundw
                case rel => exact ⟨q + 1, by omega, by go_num, HH8, HO8, fun j' hj' => unhide HKA j' (by omega), unhide HB8⟩
                case measure => simp [intOf]; omega

      · by_cases ho1 : xo < 0
        · have HF := hide (unhide HODD 2 (by unfold oddP; rw [if_neg hk1, if_neg (unhide HNW), if_neg (by simp), if_pos (.inl ho1)]) (by decide))
          clear hk1
          go_wp2_with fail
          go_ret2
          rw [unhide HF]
          exact tabPost_nil _ _ _ (by rw [← unhide HWX]; exact unhide HBXW)
        obtain ⟨o', rfl⟩ := Int.eq_ofNat_of_zero_le (show 0 ≤ xo by omega)
        by_cases ho2 : m ≤ o'
        · have HF := hide (unhide HODD 2 (by unfold oddP; rw [if_neg hk1, if_neg (unhide HNW), if_neg (by simp), if_pos (.inr (show (((es.take m).length : Nat) : Int) ≤ ((o' : Nat) : Int) by rw [unhide HTL]; omega))]) (by decide))
          have ho2' : (m : Int) ≤ (o' : Int) := by omega
          clear hk1
          go_wp2_with fail
          go_ret2
          rw [unhide HF]
          exact tabPost_nil _ _ _ (by rw [← unhide HWX]; exact unhide HBXW)
        have ho2' : o' < m := by omega
        have hd3 : decide (m ≤ o') = false := decide_eq_false ho2
        have hd4 : decide ((o' : Int) < 0) = false := decide_eq_false ho1
        have ho3 : (o' : Int) < (n : Int) := by omega
        obtain ⟨b', o'', y, hA, _, hy, hcy⟩ := at_row (size := 3) (fun x => (rfl : (Ev.cells x).length = 3)) (by omega) ((unhide HR).below (unhide HBXW)) (show o' < n by omega) (unhide HL)
        injection hA with hA
        injection hA with hA1 hA2
        subst hA1 hA2
        have s0 := hcy 0 _ rfl
        simp only [Nat.add_zero] at s0
        rw [unhide HWX] at s0
        have HYD := hide (show (es.take m).getD ((o' : Nat) : Int).toNat default = y by
          rw [show ((o' : Nat) : Int).toNat = o' from rfl, List.getD_eq_getElem?_getD, List.getElem?_take, if_pos ho2', hy]; rfl)
        obtain ⟨yk, yw, yo⟩ := y
        dsimp only at s0
        clear hcy hy ho1 ho2
        by_cases hyk : yk = 2
        rotate_left
        · have HF := hide (unhide HODD 4 (by unfold oddP; rw [if_neg hk1, if_neg (unhide HNW), if_neg (by simp), if_neg (show ¬ (((o' : Nat) : Int) < 0 ∨ (((es.take m).length : Nat) : Int) ≤ ((o' : Nat) : Int)) by rw [unhide HTL]; omega)]; dsimp only; rw [unhide HYD, if_pos hyk]) (by decide))
          have hyk2 : (yk != 2) = true := by simpa using hyk
          clear hk1
          go_wp2_with fail
          go_ret2
          rw [unhide HF]
          exact tabPost_nil _ _ _ (by rw [← unhide HWX]; exact unhide HBXW)
        have HSRC := hide (show srcF es m = some o' by unfold srcF; rw [unhide HG]; rfl)
        have HOKM := hide (show okE s es m = 0 by rw [unhide HOK]; unfold oddP; rw [if_neg hk1, if_neg (unhide HNW), if_neg (by simp), if_neg (show ¬ (((o' : Nat) : Int) < 0 ∨ (((es.take m).length : Nat) : Int) ≤ ((o' : Nat) : Int)) by rw [unhide HTL]; omega)]; dsimp only; rw [unhide HYD, if_neg (by simp [hyk])])
        subst hyk
        clear hk1
        go_wp2_with fail
        obtain ⟨wz, hwz⟩ : ∃ wz, wz = (wo.alloc (.cells #[.int .i64 3, .int .i64 p, .int .i64 o'] 41)).alloc (.cells ((madeCells #[Value.bool false] n).setIfInBounds m (.bool true)) 4) := ⟨_, rfl⟩
        have hz0 : BRow wz (wo.heap.size + 1) n (stageB es m 0) := by rw [hwz]; exact unhide HSTART
        have hzb : Below wx.heap.size wx wz := by rw [hwz, ← unhide HWX]; exact (Below.refl _ _).alloc (Nat.le_refl _) _
        rw [← hwz]
        have HZ0 := hide hz0
        have HZB := hide hzb
        have hGx : wx.heap.size ≤ wo.heap.size + 1 := by rw [unhide HSX]; exact Nat.le_refl _
        have HKA := hide (show ∀ j, j ≤ m → okE s es j = 0 from fun j hj => by
          rcases Nat.lt_or_ge j m with h | h
          · exact unhide HK j h
          · obtain rfl : j = m := by omega
            exact unhide HOKM)
        clear hwz hz0 hzb HSTART p0 p1 p2 hmd e0 e1 e2 hbx s0
        go_loopw [11] (fun i wr => ∃ q : Nat, q ≤ m ∧ i = .int .i64 q ∧ Hid (BRow wr (wo.heap.size + 1) n (stageB es m q)) ∧ Below wx.heap.size wx wr) (fun i _ => m - (intOf i).toNat)
        case atStart => exact ⟨0, Nat.zero_le _, rfl, HZ0, unhide HZB⟩
        case round =>
          obtain ⟨q, hq, rfl, HB, hzr⟩ := hrel
          have hwrs := hzr.size
          by_cases hqm : q < m
          · obtain ⟨b', o'', y, hA, _, hy, hcy⟩ := at_row (size := 3) (fun x => (rfl : (Ev.cells x).length = 3)) (by omega) ((unhide HR).below ((unhide HBXW).trans (hzr.mono (unhide HBXW).size))) (show q < n by omega) (unhide HL)
            injection hA with hA
            injection hA with hA1 hA2
            subst hA1 hA2
            have f1 := hcy 1 _ rfl
            have HY := hide (whoF_at hy)
            obtain ⟨yk, yw, yo⟩ := y
            dsimp only at f1 HY
            obtain ⟨hb, hc, hg, hvv, ch, hbl', hgl, hrow⟩ := ((unhide HH).below (unhide HBX)).at_ hqm
            have hq1 : ∀ W, Below wx.heap.size wx W → W.cell? ⟨hb, q, none⟩ = some (.slice (some ⟨hg, 0, none⟩) n n) := fun W hW => (hW.cell (p := ⟨hb, q, none⟩) hbl').trans ch
            have HROWQ := hide (show ∀ W, Below wx.heap.size wx W → BRow W hg n (Hg (depF es) q) from fun W hW => Blk.below hrow hW hgl)
            have hqi : (q : Int) < (m : Int) := by omega
            have hqn : (q : Int) < (n : Int) := by omega
            clear hcy hy ch hrow hbl' hgl
            subst hvv
            by_cases hyw : yw = (p : Int)
            · have HDEP := hide (show depF es m q = true by unfold depF; rw [unhide HY, unhide HWH, hyw]; simp)
              subst hyw
              go_wp2_with fail
              go_quiet (fail)
              go_wp2_with fail
              have hz2 : Below wx.heap.size wx (wr.drewN nq) := below_drewN hzr nq
              have HB2 : Hid (BRow (wr.drewN nq) (wo.heap.size + 1) n (stageB es m q)) := HB
              clear hzr HB f1 hwrs
              generalize wr.drewN nq = w2 at *
              go_loopw [114] (fun i wr => ∃ j : Nat, j ≤ n ∧ i = .int .i64 j ∧ Hid (BRow wr (wo.heap.size + 1) n (fun j' => if j' < j then stageB es m (q + 1) j' else stageB es m q j')) ∧ Below wx.heap.size wx wr) (fun i _ => n - (intOf i).toNat)
              case atStart => exact ⟨0, Nat.zero_le _, rfl, (unhide HB2).congr (fun j hj => by simp), hz2⟩
              case round =>
                obtain ⟨j, hj, rfl, HB3, hz3⟩ := hrel
                by_cases hjn : j < n
                · have cj := (unhide HB3).cell hjn
                  simp only [Nat.lt_irrefl, if_false] at cj
                  have fj := Blk.frozen (unhide HB3) j
                  have cq := hq1 _ hz3
                  have cg := (unhide HROWQ _ hz3).cell hjn
                  have hjn' : (j : Int) < (n : Int) := by omega
                  have HS1 := hide (stageB_succ es m q j)
                  rw [unhide HDEP, Bool.true_and] at HS1
                  have HB4 := hide (show ∀ b, b = stageB es m (q + 1) j → BRow (wr.setCell ⟨wo.heap.size + 1, j, none⟩ (.bool b)) (wo.heap.size + 1) n (fun j' => if j' < j + 1 then stageB es m (q + 1) j' else stageB es m q j') from fun b hb => ((unhide HB3).set_ hjn b).congr fun j' hj' => by
                    by_cases e : j' = j
                    · subst e; simp [hb]
                    · by_cases h2 : j' < j
                      · simp [e, h2, show j' < j + 1 by omega]
                      · simp [e, h2, show ¬ j' < j + 1 by omega])
                  have HB5 := hide hz3
                  clear HB3 hz3
                  cases hst : stageB es m q j with
                  | true =>
                    rw [hst] at cj HS1
                    have HB6 := hide (unhide HB4 true (by rw [unhide HS1]; rfl))
                    clear HB4 HS1 hst cg
                    go_wp2_with fail
                    go_roundw
                    case rel => exact ⟨j + 1, by omega, by go_num, HB6, (unhide HB5).setCell (by show wx.heap.size ≤ wo.heap.size + 1; exact hGx) _⟩
                    case measure => simp [intOf]; omega
                  | false =>
                    rw [hst] at cj HS1
                    have HB6 := hide (unhide HB4 (Hg (depF es) q j) (by rw [unhide HS1]; rfl))
                    generalize Hg (depF es) q j = bq at *
                    clear HB4 HS1 hst
                    go_wp2_with fail
                    go_roundw
                    case rel => exact ⟨j + 1, by omega, by go_num, HB6, (unhide HB5).setCell (by show wx.heap.size ≤ wo.heap.size + 1; exact hGx) _⟩
                    case measure => simp [intOf]; omega
                · obtain rfl : j = n := by omega
                  have HB4 := hide ((unhide HB3).congr (P' := stageB es m (q + 1)) fun j' hj' => by simp [hj'])
                  have HZ3 := hide hz3
                  clear HB3 hz3
                  go_wp2_with fail
                  go_roundw
                  case rel => exact ⟨q + 1, by omega, by go_num, HB4, unhide HZ3⟩
                  case measure => simp [intOf]; omega
            · have hyb : (yw != (p : Int)) = true := by simpa using hyw
              by_cases hoq : o' = q
              · have HDEP := hide (show depF es m q = true by unfold depF; rw [unhide HSRC, hoq]; simp)
                obtain rfl : q = o' := hoq.symm
                go_wp2_with fail
                go_quiet (fail)
                go_wp2_with fail
                have hz2 : Below wx.heap.size wx (wr.drewN nq) := below_drewN hzr nq
                have HB2 : Hid (BRow (wr.drewN nq) (wo.heap.size + 1) n (stageB es m q)) := HB
                clear hzr HB f1 hwrs
                generalize wr.drewN nq = w2 at *
                go_loopw [114] (fun i wr => ∃ j : Nat, j ≤ n ∧ i = .int .i64 j ∧ Hid (BRow wr (wo.heap.size + 1) n (fun j' => if j' < j then stageB es m (q + 1) j' else stageB es m q j')) ∧ Below wx.heap.size wx wr) (fun i _ => n - (intOf i).toNat)
                case atStart => exact ⟨0, Nat.zero_le _, rfl, (unhide HB2).congr (fun j hj => by simp), hz2⟩
                case round =>
                  obtain ⟨j, hj, rfl, HB3, hz3⟩ := hrel
                  by_cases hjn : j < n
                  · have cj := (unhide HB3).cell hjn
                    simp only [Nat.lt_irrefl, if_false] at cj
                    have fj := Blk.frozen (unhide HB3) j
                    have cq := hq1 _ hz3
                    have cg := (unhide HROWQ _ hz3).cell hjn
                    have hjn' : (j : Int) < (n : Int) := by omega
                    have HS1 := hide (stageB_succ es m q j)
                    rw [unhide HDEP, Bool.true_and] at HS1
                    have HB4 := hide (show ∀ b, b = stageB es m (q + 1) j → BRow (wr.setCell ⟨wo.heap.size + 1, j, none⟩ (.bool b)) (wo.heap.size + 1) n (fun j' => if j' < j + 1 then stageB es m (q + 1) j' else stageB es m q j') from fun b hb => ((unhide HB3).set_ hjn b).congr fun j' hj' => by
                      by_cases e : j' = j
                      · subst e; simp [hb]
                      · by_cases h2 : j' < j
                        · simp [e, h2, show j' < j + 1 by omega]
                        · simp [e, h2, show ¬ j' < j + 1 by omega])
                    have HB5 := hide hz3
                    clear HB3 hz3
                    cases hst : stageB es m q j with
                    | true =>
                      rw [hst] at cj HS1
                      have HB6 := hide (unhide HB4 true (by rw [unhide HS1]; rfl))
                      clear HB4 HS1 hst cg
                      go_wp2_with fail
                      go_roundw
                      case rel => exact ⟨j + 1, by omega, by go_num, HB6, (unhide HB5).setCell (by show wx.heap.size ≤ wo.heap.size + 1; exact hGx) _⟩
                      case measure => simp [intOf]; omega
                    | false =>
                      rw [hst] at cj HS1
                      have HB6 := hide (unhide HB4 (Hg (depF es) q j) (by rw [unhide HS1]; rfl))
                      generalize Hg (depF es) q j = bq at *
                      clear HB4 HS1 hst
                      go_wp2_with fail
                      go_roundw
                      case rel => exact ⟨j + 1, by omega, by go_num, HB6, (unhide HB5).setCell (by show wx.heap.size ≤ wo.heap.size + 1; exact hGx) _⟩
                      case measure => simp [intOf]; omega
                  · obtain rfl : j = n := by omega
                    have HB4 := hide ((unhide HB3).congr (P' := stageB es m (q + 1)) fun j' hj' => by simp [hj'])
                    have HZ3 := hide hz3
                    clear HB3 hz3
                    go_wp2_with fail
                    go_roundw
                    case rel => exact ⟨q + 1, by omega, by go_num, HB4, unhide HZ3⟩
                    case measure => simp [intOf]; omega
              · have HDEP := hide (show depF es m q = false by unfold depF; rw [unhide HY, unhide HWH, unhide HSRC]; simp [hyw, hoq])
                have hoq1 : ((o' : Int) == (q : Int)) = false := by simp; omega
                have hoq2 : (o' == q) = false := by simpa using hoq
                have hoq3 : decide (o' = q) = false := decide_eq_false hoq
                have HB2 := hide ((unhide HB).congr (P' := stageB es m (q + 1)) fun j _ => by rw [stageB_succ, unhide HDEP, Bool.false_and, Bool.or_false])
                have HZ2 := hide (below_drewN hzr)
                clear HB
                go_wp2_with fail
                go_quiet (fail)
                go_wp2_with fail
                go_roundw
                case rel => exact ⟨q + 1, by omega, by go_num, HB2, unhide HZ2 nq⟩
                case measure => simp [intOf]; omega
          · obtain rfl : q = m := by omega
            have HM := hide ((unhide HB).congr (P' := Hg (depF es) q) fun j _ => stageB_last es q j)
            obtain ⟨xsh, hownh, hpushh⟩ := ((unhide HH).below ((unhide HBX).trans (hzr.mono (unhide HBX).size))).push
            have HOWNH := hide hownh
            have HPUSHH := hide hpushh
            have HBWR := hide (show Below w.heap.size w wr from (unhide HBXW).trans (hzr.mono (unhide HBXW).size))
            have HOUT := hide ((unhide HO).below ((unhide HBX).trans (hzr.mono (unhide HBX).size)))
            have hmb : (q + 1) * 24 ≤ 140737488355328 := by omega
            have hbs1 : w.heap.size ≤ wr.heap.size := (unhide HBWR).size
            have hbs2 : w.heap.size ≤ wo.heap.size + 1 := by omega
            clear hownh hpushh HB hqm hzr
            go_wp2_with (first
              | (at_builtin; (refine wpList_append_new _ rfl (.tmp 134) (.tmp 136) _ rfl w.heap.size 45 iq _ 1 24 Try.underlying44 hiq hq0 hq1' hq2 rfl (by omega) (by omega) _ _ _ (unhide HOWNH) rfl _ 1 _ rfl rfl rfl (by simp [Value.oneCell']) hmb (by omega) ?_); intro g5 cap5 w5 hg5 hown5 hbel5 hgr5 hat5))
            have HH5 := hide (unhide HPUSHH _ w5 _ hbs2 (unhide HM) hgr5 hown5)
            have HM5 := hide (show BRow w5 (wo.heap.size + 1) n (Hg (depF es) q) from Blk.grown (unhide HM) hgr5 (Ne.symm (own_blk_ne (unhide HOWNH) (unhide HM) (by decide))))
            have HO5 := hide ((unhide HOUT).grown (unhide HOWNH) (by decide) (by decide) hgr5)
            have HB5 := hide (hbel5 _ _ (Nat.le_refl _) (unhide HBWR))
            have h5s := (unhide HB5).size
            have hG5 : wo.heap.size + 1 < w5.heap.size := Blk.lt (unhide HM5)
            have HI5 := hide (irow_made w5 s)
            clear hown5 hbel5 hgr5 hat5 HM HOUT HBWR HPUSHH HOWNH
            obtain ⟨w6, hw6⟩ : ∃ w6, w6 = w5.alloc (.cells (madeCells #[Value.int .i64 0] s) 3) := ⟨_, rfl⟩
            have hb56 : Below w5.heap.size w5 w6 := by rw [hw6]; exact (Below.refl _ _).alloc (Nat.le_refl _) _
            have HI6 := hide (show IRow w6 w5.heap.size (cntRow es s (Hg (depF es) q) 0) [] by rw [hw6, cntRow_zero]; exact unhide HI5)
            rw [← hw6]
            clear hw6 HI5
            go_loopw [142] (fun i wr => ∃ j : Nat, j ≤ n ∧ i = .int .i64 j ∧ Hid (IRow wr w5.heap.size (cntRow es s (Hg (depF es) q) j) []) ∧ Below w5.heap.size w5 wr) (fun i _ => n - (intOf i).toNat)
            case atStart => exact ⟨0, Nat.zero_le _, rfl, HI6, hb56⟩
            case round =>
              obtain ⟨j, hj, rfl, HI, hzj⟩ := hrel
              by_cases hjn : j < n
              · have cj := BRow.cell (show BRow wr (wo.heap.size + 1) n (Hg (depF es) q) from Blk.below (unhide HM5) hzj hG5) hjn
                have hjn' : (j : Int) < (n : Int) := by omega
                cases hP : Hg (depF es) q j with
                | false =>
                  rw [hP] at cj
                  have HI7 := hide (show IRow wr w5.heap.size (cntRow es s (Hg (depF es) q) (j + 1)) [] by rw [cntRow_succ hP]; exact unhide HI)
                  have HZJ := hide hzj
                  clear HI hP hzj
                  go_wp2_with fail
                  go_roundw
                  case rel => exact ⟨j + 1, by omega, by go_num, HI7, unhide HZJ⟩
                  case measure => simp [intOf]; omega
                | true =>
                  rw [hP] at cj
                  have hjq := (hangsF es n).le q (by omega) j hP
                  obtain ⟨b', o'', y, hA, _, hy, hcy⟩ := at_row (size := 3) (fun x => (rfl : (Ev.cells x).length = 3)) (by omega) ((unhide HR).below ((unhide HB5).trans (hzj.mono h5s))) hjn (unhide HL)
                  injection hA with hA
                  injection hA with hA1 hA2
                  subst hA1 hA2
                  have f1 := hcy 1 _ rfl
                  have hyd : es.getD j default = y := by rw [List.getD_eq_getElem?_getD, hy]; rfl
                  have hyk := unhide HKA j hjq
                  unfold okE at hyk
                  rw [hyd] at hyk
                  obtain ⟨_, _, hy3, hy4, _⟩ := oddP_zero hyk
                  have hyw := whoF_at hy
                  obtain ⟨yk, yw, yo⟩ := y
                  dsimp only at f1 hy3 hy4 hyw
                  obtain ⟨pj, rfl⟩ := Int.eq_ofNat_of_zero_le hy3
                  obtain ⟨z, hz, hz0, hz1, hset⟩ := cntRow_inc (es := es) (s := s) (P := Hg (depF es) q) hP hyw (by omega)
                  have cz := (unhide HI).cell hz
                  have fz := IRow.frozen (unhide HI) pj
                  have HI7 := hide (show IRow (wr.setCell ⟨w5.heap.size, pj, none⟩ (.int .i64 (z + 1))) w5.heap.size (cntRow es s (Hg (depF es) q) (j + 1)) [] by
                    have h := (unhide HI).set_ (k := pj) (List.getElem?_eq_some_iff.1 hz).1 (z + 1)
                    rw [hset] at h
                    exact h)
                  have HZJ := hide hzj
                  have hz2 : z ≤ 200 := by omega
                  have hpj : (pj : Int) < (s : Int) := hy4
                  clear HI hP hzj hz hset hyk hyd hy hcy hyw hy4
                  go_wp2_with fail
                  go_roundw
                  case rel => exact ⟨j + 1, by omega, by go_num, HI7, (unhide HZJ).setCell (Nat.le_refl _) _⟩
                  case measure => simp [intOf]; omega
              · obtain rfl : j = n := by omega
                have HI7 := hide (show IRow wr w5.heap.size (clkRow es s q) [] by have h := unhide HI; rwa [cntRow_whole (by omega)] at h)
                have HO6 := hide ((unhide HO5).below hzj)
                have HH6 := hide ((unhide HH5).below hzj)
                have HB6 := hide ((unhide HB5).trans (hzj.mono h5s))
                obtain ⟨xso, howno, hpusho⟩ := (unhide HO6).push
                have HOWNO := hide howno
                have HPUSHO := hide hpusho
                have hb6s := (unhide HB6).size
                clear howno hpusho HI hzj
                go_wp2_with (first
                  | (at_builtin; (refine wpList_append_new _ rfl (.tmp 160) (.tmp 162) _ rfl w.heap.size 22 ir _ 1 24 Try.underlying31 hir hr0 hr1 hr2 rfl (by omega) (by omega) _ _ _ (unhide HOWNO) rfl _ 1 _ rfl rfl rfl (by simp [Value.oneCell']) hmb (by omega) ?_); intro g8 cap8 w8 hg8 hown8 hbel8 hgr8 hat8))
                have HO8 := hide (unhide HPUSHO _ w8 _ h5s (by unfold maxLen; omega) (unhide HI7) hgr8 hown8)
                have HH8 := hide ((unhide HH6).grown (unhide HOWNO) (by decide) (by decide) hgr8)
                have HB8 := hide (hbel8 _ _ (Nat.le_refl _) (unhide HB6))
                clear hown8 hbel8 hgr8 hat8
                go_roundw
                case rel => exact ⟨q + 1, by omega, by go_num, HH8, HO8, fun j' hj' => unhide HKA j' (by omega), unhide HB8⟩
                case measure => simp [intOf]; omega

    · obtain rfl : m = n := by omega
      have HF := hide (play_good (sites := s) (es := es) hs1 hs8 (by rw [unhide HL]; exact hn2) (fun j hj => unhide HK j (by rw [← unhide HL]; exact hj)))
      obtain ⟨A2, c2, hv2, hdone⟩ := (unhide HO).done hbw
      subst hv2
      have HD := hide hdone
      clear hdone HK HO HH hbw
      go_wp2_with fail
      go_ret2
      rw [unhide HF, unhide HL]
      exact unhide HD
end Go.Proofs.Ytickpflebmecpaa
