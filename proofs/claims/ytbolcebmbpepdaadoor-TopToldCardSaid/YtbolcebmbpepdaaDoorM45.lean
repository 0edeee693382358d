/- Contracts and plain facts, set together by program out of smaller texts. Conditions: none beyond what each theorem states. -/
import Derived.Test.YtbolcebmbpepdaaDoorM44
namespace Go.Proofs.YtbolcebmbpepdaaDoor
set_option linter.unusedVariables false
section
open Go.RowKit
section
variable {w : World} {c : Cfg} {y : Lay} {S : WS} {K base : Nat} {ow : Nat → Tag}
set_option maxRecDepth 1000000 in
set_option maxHeartbeats 3000000 in
theorem tick_any (h : PW w c y S K base ow) (N : Nat) (hS : S.ok c N) (hN : N ≤ 10000) :
    Calls Tryd.prog 24 #[.pointer (some ⟨y.hb, 0, none⟩)] w (StepPost w c y K base ow (tickW c S)) := by
  obtain ⟨⟨hn, hn1, hn8⟩, hln, htk, hm3, hcap, hla, hmi⟩ := config_facts h.may
  obtain ⟨wb, hwb⟩ : ∃ p, p = w.heap.size := ⟨_, rfl⟩
  obtain ⟨tb, htb⟩ : ∃ q, q = w.heap.size + 1 := ⟨_, rfl⟩
  obtain ⟨wx, hwx⟩ : ∃ wx, wx = (w.alloc (.cells #[.pointer (some ⟨y.hb, 0, none⟩)] 48)).alloc (.cells (tol0 0 0).cells.toArray 42) := ⟨_, rfl⟩
  have hbx : Below w.heap.size w wx := by rw [hwx]; exact ((Below.refl _ _).alloc (Nat.le_refl _) _).alloc (by simp) _
  have kw : Blk wx wb 48 #[.pointer (some ⟨y.hb, 0, none⟩)] := by rw [hwx, hwb]; exact (Blk.new w _ _).alloc _
  have kt : Blk wx tb 42 (tol0 0 0).cells.toArray := by
    have h1 := Blk.new (w.alloc (.cells #[.pointer (some ⟨y.hb, 0, none⟩)] 48)) 42 (tol0 0 0).cells.toArray
    rw [hwx, htb]
    simpa using h1
  have hT : TkA w c y (S.tkTo c.m 0 0) K base ow tb wb (tol0 0 0) wx ow := by
    rw [tkTo_zero]
    exact ⟨h.calm hbx, Kept.calm hbx, h.fresh _ (by omega), h.fresh _ (by omega), h.bw, by omega, by omega, kt, kw, tol0_own _ _ _ _, tol0_no _ _ _⟩
  have HT := hide hT
  have w0 := hT.w0
  have h5 := hT.h5
  have HS := hide hS
  have HWX := hide hwx
  have HTB := hide htb
  have HWB := hide hwb
  have HLA := hide hla
  have HN := hide hn
  have HMI := hide hmi
  have HTK := hide htk
  have HLN := hide hln
  have HCP := hide hcap
  have HH := hide h
  clear hT hS hwx hbx kw kt hwb htb hn hla hmi htk hln hcap h
  obtain ⟨iL, hiL, zL, hzL, hcL, hsL, hyL⟩ : ∃ i, Tryd.prog.info? 22 = some i ∧ ∃ z, i.zero = some z ∧ z.cells.toList = [Value.slice none 0 0] ∧ i.size = 1 ∧ i.bytes = 24 := info_of_cells (by kernel_rfl)
  obtain ⟨iI, hiI, hzI, hsI, hyI⟩ : ∃ i, Tryd.prog.info? 3 = some i ∧ i.zero = some (.int .i64 0) ∧ i.size = 1 ∧ i.bytes = 8 := info_of (by kernel_rfl)
  have hmk := fun W => run_make_rowN (P := Tryd.prog) 100 22 iL _ Tryd.underlying100 hiL hzL .i64 .i64 c.n c.n (Nat.le_refl _) (by rw [hyL]; omega) (by omega) W
  rw [hsL, Nat.mul_one, made_nil c.n zL.cells hcL] at hmk
  have HMK := hide hmk
  clear hmk
  go_enter Tryd.func24, Tryd.ntmps24
  go_upto_region 2 with fail
  rw [show (#[.int .i64 0, .int .i64 0, .int .i64 0, .int .i64 0, .int .i64 0, .int .i64 0, .int .i64 0, .int .i64 0, .slice none 0 0, .slice none 0 0, .slice none 0 0] : Array Value) = (tol0 0 0).cells.toArray from rfl, ← unhide HWX, ← unhide HTB, ← unhide HWB]
  go_wp2_with fail
  go_loopw [31] (fun i wr => ∃ (a : Nat) (ow1 : Nat → Tag), a ≤ c.n ∧ i = .int .i64 a ∧ Hid (TkA w c y (S.tkTo c.m a 0) K base ow tb wb (tol0 0 0) wr ow1)) (fun i _ => c.n - (intOf i).toNat)
  case atStart => exact ⟨0, ow, Nat.zero_le _, rfl, HT⟩
  case round =>
    obtain ⟨a, ow1, ha, rfl, HA⟩ := hrel
    by_cases hlt : a < c.n
    · have hlt' : (a : Int) < (c.n : Int) := by omega
      have b0 := (unhide HA).br hlt
      have d0 := (unhide HA).s0 hlt
      clear w0 h5
      go_wp2_with fail
      go_loopw [40] (fun i wr => ∃ (b : Nat) (ow1 : Nat → Tag), b ≤ c.m ∧ i = .int .i64 b ∧ Hid (TkA w c y (S.tkTo c.m a b) K base ow tb wb (tol0 0 0) wr ow1)) (fun i _ => c.m - (intOf i).toNat)
      case atStart => exact ⟨0, ow1, Nat.zero_le _, rfl, HA⟩
      case round =>
        obtain ⟨b, ow2, hb, rfl, HB⟩ := hrel
        by_cases hltb : b < c.m
        · have hltb' : (b : Int) < (c.m : Int) := by omega
          clear b0 d0
          have d0 := (unhide HB).s0 hlt
          have HDO := hide (shelfDoW_any (ow := ow2) tickO a b (unhide HB).pw hlt hltb N (by have := (unhide HS).sh a b; show (if _ then _ else _ : Shf).ok _; rw [if_neg (by omega)]; exact this) (by omega))
          unfold tickO Ordr.val at HDO
          dsimp only at HDO
          go_wp2_with fail
          refine (unhide HDO).mono ?_
          rintro _ w3 ⟨rfl, ow3, hp3, hk3⟩
          have h3 := (unhide HB).turn hp3 hk3
          have HC := hide h3
          clear hp3 hk3 h3 d0
          go_wp2_with fail
          go_roundw
          case rel => exact ⟨b + 1, ow3, by omega, by go_num, by have e := tkTo_item S c.m a b; unfold tickO at e; rw [e]; exact HC⟩
          case measure => simp [intOf]; omega
        · obtain rfl : b = c.m := by omega
          go_wp2_with fail
          go_roundw
          case rel => exact ⟨a + 1, ow2, by omega, by go_num, by rw [← tkTo_row]; exact HB⟩
          case measure => simp [intOf]; omega
    · obtain rfl : a = c.n := by omega
      have hA1 : TkA w c y S.aged K base ow tb wb (tol0 0 0) wr ow1 := (unhide HA).turn (unhide HA).pw.aged (Kept.refl _ _)
      have HA1 := hide hA1
      clear HA HT w0 h5
      have w0 := hA1.w0
      have h5 := hA1.h5
      clear hA1
      go_wp2_with fail
      go_loopw [58] (fun i wr => ∃ (a : Nat) (t : Tol) (ow1 : Nat → Tag), a ≤ c.n ∧ i = .int .i64 a ∧ Hid (TickAt w c y S.aged K base ow tb wb (sendsTo c S.aged a) [] t wr ow1)) (fun i _ => c.n - (intOf i).toNat)
      case atStart => exact ⟨0, tol0 0 0, ow1, Nat.zero_le _, rfl, hide ⟨by rw [show sendsTo c S.aged 0 = [] from rfl, posts_nil]; exact unhide HA1, rfl⟩⟩
      case round =>
        obtain ⟨a, t, ow2, ha, rfl, HB⟩ := hrel
        have hHl : (sendsTo c S.aged a).length ≤ 8 * a := sends_len c S.aged hn8 a ha
        have HHL := hide hHl
        clear hHl
        by_cases hlt : a < c.n
        · have hlt' : (a : Int) < (c.n : Int) := by omega
          have b0 := (unhide HB).tk.br hlt
          clear w0 h5
          go_upto_region 14 with fail
          clear b0
          go_cut [9] (fun s9 W => Hid (∃ ow', TickAt w c y S.aged K base ow tb wb (sendsTo c S.aged a) [] t W ow' ∧ BytCut (asksP c (S.ask a)).1 W s9))
          case first =>
            have hB := (unhide HB).tk
            have hcb := (hB.pw.pc .con).blk
            have e0 := fun m : Ext wr => m.cell (show wr.cell? ⟨y.hb, 0, none⟩ = some (.int .i64 c.br) from hcb.cell 0)
            have e1 := fun m : Ext wr => m.cell (show wr.cell? ⟨y.hb, 1, none⟩ = some (.slice c.la.A c.la.n c.la.c) from hcb.cell 1)
            have e2 := fun m : Ext wr => m.cell (show wr.cell? ⟨y.hb, 2, none⟩ = some (.int .i64 c.tk) from hcb.cell 2)
            have e3 := fun m : Ext wr => m.cell (show wr.cell? ⟨y.hb, 3, none⟩ = some (.slice c.mi.A c.mi.n c.mi.c) from hcb.cell 3)
            have e4 := fun m : Ext wr => m.cell (show wr.cell? ⟨y.hb, 4, none⟩ = some (.int .i64 c.cap) from hcb.cell 4)
            have e5 := fun m : Ext wr => m.cell hB.w0
            have e6 := fun m : Ext wr => m.cell (hB.s1 hlt)
            have hask := hB.asks hlt ((unhide HS).ask a).1
            have HAK := hide (fun W (hW : Below wr.heap.size wr W) => asks_any c ⟨some ⟨(y.br a).a, 0, none⟩, c.m, c.m, S.ask a⟩ W.heap.size W ((hB.calm hW).pw.cfg.more (hB.calm hW).pw.bw) ((hask.below hW).more hW.size) (Nat.le_refl _))
            clear hB hcb
            unfold Cfg.val AsksPost at HAK
            dsimp only at HAK
            clear hask
            refine wp_region_calm_treeW [0, 1, 2, 3, 4, 5, 6, 7] [8, 9, 10, 11, 12, 13] (treeA 8) (by kernel_rfl) (by kernel_rfl) (by intro c a d v w h; cases d <;> exact h) ?_
            simp only [pickOps, List.map_cons, List.map_nil, List.getD_cons_zero, List.getD_cons_succ]
            repeat (go_big_quiet_step (fail))
            refine wpQuiet_nil ?_
            clear e0 e1 e2 e3 e4 e5 e6
            have hd0 : Below wr.heap.size wr wr.drew := (Below.refl _ wr).drew
            generalize wr.drew = wd at hd0 ⊢
            unfold treeA
            refine wpT_step fun K0 hK0 => ?_
            simp only [pickOps, List.map_cons, List.map_nil, List.getD_cons_zero, List.getD_cons_succ]
            go_wp2_with fail
            refine (unhide HAK wd hd0).mono ?_
            rintro _ w5 ⟨v5, rfl, ho5, hb5⟩
            have hd5 := hd0.trans (hb5.mono hd0.size)
            have hB5 := (unhide HB).calm hd5
            have HCUT := hide (show Hid (∃ ow', TickAt w c y S.aged K base ow tb wb (sendsTo c S.aged a) [] t w5 ow' ∧ BytCut (asksP c (S.ask a)).1 w5 v5) from hide ⟨_, hB5, BytCut.of ho5⟩)
            clear ho5 hb5 hB5 hd0 HAK
            go_wp2_with fail
            refine hK0 _ w5 (fun _ => ⟨⟨_, hd5⟩, rfl⟩) ?_
            clear hK0 K0
            repeat' (first
              | (refine wpT_fork ?_ ?_)
              | (refine wpT_done ?_; go_wp2_with (fail); go_meet; exact unhide HCUT)
              | (refine wpT_step fun K0 hK0 => ?_; simp only [pickOps, List.map_cons, List.map_nil, List.getD_cons_zero, List.getD_cons_succ]; go_wp2_with (fail); refine hK0 _ w5 (fun _ => ⟨⟨_, hd5⟩, rfl⟩) ?_; clear hK0 K0))
          case rest =>
            obtain ⟨ow3, hC, A, n, cc, B, rfl, hdl, hr⟩ := unhide hcut
            have HC := hide hC
            have hnl := asksP_len c (S.ask a) hm3.2
            have HSE := hide (fun er => tickSend_any hC.tk (show (S.lts ++ _).length ≤ 1000000 by rw [List.length_append]; have := (unhide HS).len; have := unhide HHL; omega) a c.n er A n cc (asksP c (S.ask a)).1 wc.heap.size hdl (by omega) (Reads.of_own hr) (Nat.le_refl _) (WalkArith.wf_i64 (by omega)) (WalkArith.wf_i64 (by omega)) (by have := hC.sn; have := unhide HHL; omega))
            have w0 := hC.tk.w0
            have h0 := hC.tk.h0
            rw [unhide HN] at h0
            clear hC hr hdl hnl
            go_wp2_with fail
            refine (unhide HSE _).mono ?_
            rintro _ w3 hp
            obtain ⟨rfl, t3, ow4, h3, _⟩ := (unhide HC).send hp
            have H3 := hide h3
            clear hp w0 h0 HSE HC
            have w0 := h3.tk.w0
            have h5 := h3.tk.h5
            clear h3
            go_wp2_with fail
            go_loopw [90] (fun i wr => ∃ (b : Nat) (t : Tol) (ow1 : Nat → Tag), b ≤ c.n ∧ i = .int .i64 b ∧ Hid (TickAt w c y S.aged K base ow tb wb (sendsTo c S.aged a ++ (⟨a, c.n, (asksP c (S.ask a)).1⟩ :: rumsTo c S.aged a b)) [] t wr ow1)) (fun i _ => c.n - (intOf i).toNat)
            case atStart => exact ⟨0, t3, ow4, Nat.zero_le _, rfl, H3⟩
            case round =>
              obtain ⟨b, t, ow5, hb, rfl, HB⟩ := hrel
              have HRL := hide (rums_len c S.aged a b)
              by_cases hltb : b < c.n
              · have hltb' : (b : Int) < (c.n : Int) := by omega
                have hsu := rumsTo_succ c S.aged a b
                clear w0 h5
                by_cases hba : b = a
                · subst hba
                  rw [if_pos rfl] at hsu
                  have HSU := hide hsu
                  clear hsu
                  have hne : ((b : Int) != (b : Int)) = false := by simp
                  go_wp2_with fail
                  go_roundw
                  case rel => exact ⟨b + 1, t, ow5, by omega, by go_num, by rw [unhide HSU]; exact HB⟩
                  case measure => simp [intOf]; omega
                · rw [if_neg hba] at hsu
                  have HSU := hide hsu
                  clear hsu
                  have hne : ((b : Int) != (a : Int)) = true := by simp; omega
                  go_upto_region 20 with fail
                  go_cut [12] (fun s12 W => Hid (∃ ow', TickAt w c y S.aged K base ow tb wb (sendsTo c S.aged a ++ (⟨a, c.n, (asksP c (S.ask a)).1⟩ :: rumsTo c S.aged a b)) [] t W ow' ∧ BytCut (rumourP c a b (S.st a)).1 W s12))
                  case first =>
                    have hB := (unhide HB).tk
                    have hcb := (hB.pw.pc .con).blk
                    have e0 := fun m : Ext wr => m.cell (show wr.cell? ⟨y.hb, 0, none⟩ = some (.int .i64 c.br) from hcb.cell 0)
                    have e1 := fun m : Ext wr => m.cell (show wr.cell? ⟨y.hb, 1, none⟩ = some (.slice c.la.A c.la.n c.la.c) from hcb.cell 1)
                    have e2 := fun m : Ext wr => m.cell (show wr.cell? ⟨y.hb, 2, none⟩ = some (.int .i64 c.tk) from hcb.cell 2)
                    have e3 := fun m : Ext wr => m.cell (show wr.cell? ⟨y.hb, 3, none⟩ = some (.slice c.mi.A c.mi.n c.mi.c) from hcb.cell 3)
                    have e4 := fun m : Ext wr => m.cell (show wr.cell? ⟨y.hb, 4, none⟩ = some (.int .i64 c.cap) from hcb.cell 4)
                    have e5 := fun m : Ext wr => m.cell hB.w0
                    have e6 := fun m : Ext wr => m.cell (hB.s3 hlt)
                    obtain ⟨T, hT1, hT2, hT3⟩ := hB.tab hlt ((unhide HS).st a).1
                    have HAK := hide (fun W (hW : Below wr.heap.size wr W) => rumour_any c a b T W.heap.size W ((hB.calm hW).pw.cfg.more (hB.calm hW).pw.bw) ((hT2.below hW).more hW.size) (Nat.le_refl _))
                    clear hB hcb
                    rw [hT1, hT3] at HAK
                    unfold Cfg.val RumPost at HAK
                    clear hT1 hT2 hT3 T
                    refine wp_region_calm_treeW [0, 1, 2, 3, 4, 5, 6, 7, 8, 9] [10, 11, 12, 13, 14, 15] (treeA 10) (by kernel_rfl) (by kernel_rfl) (by intro c a d v w h; cases d <;> exact h) ?_
                    simp only [pickOps, List.map_cons, List.map_nil, List.getD_cons_zero, List.getD_cons_succ]
                    repeat (go_big_quiet_step (fail))
                    refine wpQuiet_nil ?_
                    clear e0 e1 e2 e3 e4 e5 e6
                    have hd0 : Below wr.heap.size wr wr.drew := (Below.refl _ wr).drew
                    generalize wr.drew = wd at hd0 ⊢
                    unfold treeA
                    refine wpT_step fun K0 hK0 => ?_
                    simp only [pickOps, List.map_cons, List.map_nil, List.getD_cons_zero, List.getD_cons_succ]
                    go_wp2_with fail
                    refine (unhide HAK wd hd0).mono ?_
                    rintro _ w5 ⟨v5, rfl, ho5, hb5⟩
                    have hd5 := hd0.trans (hb5.mono hd0.size)
                    have hB5 := (unhide HB).calm hd5
                    have HCUT := hide (show Hid (∃ ow', TickAt w c y S.aged K base ow tb wb (sendsTo c S.aged a ++ (⟨a, c.n, (asksP c (S.ask a)).1⟩ :: rumsTo c S.aged a b)) [] t w5 ow' ∧ BytCut (rumourP c a b (S.st a)).1 w5 v5) from hide ⟨_, hB5, BytCut.of ho5⟩)
                    clear ho5 hb5 hB5 hd0 HAK
                    go_wp2_with fail
                    refine hK0 _ w5 (fun _ => ⟨⟨_, hd5⟩, rfl⟩) ?_
                    clear hK0 K0
                    repeat' (first
                      | (refine wpT_fork ?_ ?_)
                      | (refine wpT_done ?_; go_wp2_with (fail); go_meet; exact unhide HCUT)
                      | (refine wpT_step fun K0 hK0 => ?_; simp only [pickOps, List.map_cons, List.map_nil, List.getD_cons_zero, List.getD_cons_succ]; go_wp2_with (fail); refine hK0 _ w5 (fun _ => ⟨⟨_, hd5⟩, rfl⟩) ?_; clear hK0 K0))
                  case rest =>
                    obtain ⟨ow6, hC, A2, n2, cc2, B2, rfl, hdl2, hr2⟩ := unhide hcut
                    have HC := hide hC
                    have hnl := rumP_len c a b (S.st a) (unhide HLN)
                    have hll : (sendsTo c S.aged a ++ (⟨a, c.n, (asksP c (S.ask a)).1⟩ :: rumsTo c S.aged a b)).length ≤ 100 := by
                      rw [List.length_append, List.length_cons]
                      have := unhide HHL
                      have := unhide HRL
                      omega
                    have HSE := hide (fun er => tickSend_any hC.tk (show (S.lts ++ _).length ≤ 1000000 by rw [List.length_append]; have := (unhide HS).len; omega) a b er A2 n2 cc2 (rumourP c a b (S.st a)).1 wc.heap.size hdl2 (by omega) (Reads.of_own hr2) (Nat.le_refl _) (WalkArith.wf_i64 (by omega)) (WalkArith.wf_i64 (by omega)) (by have := hC.sn; omega))
                    have w0 := hC.tk.w0
                    clear hC hr2 hdl2 hnl hll
                    go_wp2_with fail
                    refine (unhide HSE _).mono ?_
                    rintro _ w6 hp
                    obtain ⟨rfl, t4, ow7, h4, _⟩ := (unhide HC).send hp
                    have H4 := hide h4
                    clear hp h4 w0 HSE HC
                    go_wp2_with fail
                    go_roundw
                    case rel => exact ⟨b + 1, t4, ow7, by omega, by go_num, by rw [unhide HSU, ← List.cons_append, ← List.append_assoc]; exact H4⟩
                    case measure => simp [intOf]; omega
              · obtain rfl : b = c.n := by omega
                go_wp2_with fail
                go_roundw
                case rel => exact ⟨a + 1, t, ow5, by omega, by go_num, by rw [sendsTo_succ]; exact HB⟩
                case measure => simp [intOf]; omega
        · obtain rfl : a = c.n := by omega
          have w0 := (unhide HB).tk.w0
          have h0 := (unhide HB).tk.h0
          rw [unhide HN] at h0
          clear h5
          have hk8 := unhide HMK wr
          obtain ⟨w4, hw4⟩ : ∃ w4, w4 = wr.alloc (.cells (nilRow c.n) 22) := ⟨_, rfl⟩
          have hb4 : Below wr.heap.size wr w4 := by rw [hw4]; exact (Below.refl _ _).alloc (Nat.le_refl _) _
          obtain ⟨gb, hgb⟩ : ∃ g, g = wr.heap.size := ⟨_, rfl⟩
          have k4 : Blk w4 gb 22 (nilRow c.n) := by rw [hw4, hgb]; exact Blk.new _ _ _
          have hG4 : GivAt w c y (S.aged.rounds c 0) K base ow tb wb (sendsTo c S.aged c.n) (reportsTo c S 0) gb (List.replicate c.n RwI.nil) t w4 ow2 := by
            have h4 := (unhide HB).calm hb4
            have hsz := (unhide HB).tk.kept.only.size
            rw [rounds_zero]
            refine ⟨h4, GivA.new k4 (by omega), (unhide HB).tk.pw.fresh _ (by omega), fun r hr b hb => ?_, fun r hr k hk => ?_⟩
            · rw [(List.mem_replicate.1 hr).2] at hb; cases hb
            · rw [(List.mem_replicate.1 hr).2] at hk; cases hk
          have HG4 := hide hG4
          have HZ4 := hide (show (List.replicate c.n RwI.nil).map RwI.zs = (List.range c.n).map (givenTo c S 0) by
            rw [List.map_replicate, show givenTo c S 0 = fun _ => [] from rfl, List.map_const', List.length_range]; rfl)
          rw [← hw4, ← hgb] at hk8
          have HGB := hide hgb
          clear hw4 hb4 k4 hgb hG4 HB
          go_upto_region 25 with fail
          clear hk8 w0 h0
          have w0 := (unhide HG4).tk.tk.w0
          have h6 := (unhide HG4).tk.tk.h6
          go_wp2_with fail
          go_loopw [129] (fun i wr => ∃ (k : Nat) (L : List RwI) (t : Tol) (ow1 : Nat → Tag), k ≤ c.m ∧ i = .int .i64 k ∧ Hid (GivAt w c y (S.aged.rounds c k) K base ow tb wb (sendsTo c S.aged c.n) (reportsTo c S k) gb L t wr ow1) ∧ Hid (L.map RwI.zs = (List.range c.n).map (givenTo c S k))) (fun i _ => c.m - (intOf i).toNat)
          case atStart => exact ⟨0, _, t, ow2, Nat.zero_le _, rfl, HG4, HZ4⟩
          case round =>
            obtain ⟨k, L, t, ow2, hk, rfl, HG, HZ⟩ := hrel
            by_cases hlt : k < c.m
            · have hlt' : (k : Int) < (c.m : Int) := by omega
              clear w0 h6
              have b0 := (unhide HG).tk.tk.bk hlt
              have hbk : ((S.aged.rounds c k).posts (sendsTo c S.aged c.n)).bk k = S.bk k := if_neg (Nat.lt_irrefl k)
              have hokb := (unhide HS).bk k
              have HRO := hide (bookRoundW_any (unhide HG).tk.tk.pw k hlt N (by rw [hbk]; exact hokb) (by omega))
              rw [hbk] at HRO
              have HRS := hide (rounds_succ S.aged c k)
              have HPS := hide (reportsTo_succ c S k)
              have HGL := hide (show (grantOf c S k).length = c.n from (round_ok hokb (unhide HCP)).lg)
              have HGR := hide (fun who => givenTo_succ c S k who)
              obtain ⟨gl, hgl⟩ : ∃ gl, gl = grantOf c S k := ⟨_, rfl⟩
              obtain ⟨rp, hrp⟩ : ∃ rp, rp = reportOf c S k := ⟨_, rfl⟩
              rw [show (roundB c.cap c.tk (S.bk k)).2.1 = gl from hgl.symm, show (roundB c.cap c.tk (S.bk k)).2.2 = rp from hrp.symm] at HRO
              rw [← hgl] at HGL HGR
              rw [← hrp] at HPS
              clear hbk hokb hgl hrp
              go_wp2_with fail
              refine (unhide HRO).mono ?_
              rintro _ w5 ⟨A, cc, ow3, rfl, hr5, hp5, hk5, hn5⟩
              have hG5 : GivAt w c y (S.aged.rounds c (k + 1)) K base ow tb wb (sendsTo c S.aged c.n) (reportsTo c S k) gb L t w5 ow3 := (unhide HG).turn (by rw [unhide HRS]; exact hp5) hk5 (by rw [unhide HRS])
              have hgp5 : Gap L (.slice A c.n cc) := Gap.of_lt (unhide HG).giv (Nat.le_refl _) (fun q hq => (hr5.lt q hq).1)
              have HRB := hide (show ∀ q, (Value.slice t.rA t.rn t.rc).ownBlock = some q → q < wr.heap.size from fun q hq => ((unhide HG).tk.tk.own.ro.lt q hq).2)
              obtain ⟨B5, hB5⟩ : ∃ B5, B5 = wr.heap.size := ⟨_, rfl⟩
              rw [← hB5] at hr5 HRB
              have HG5 := hide hG5
              have HR5 := hide hr5
              have HGP5 := hide hgp5
              clear hr5 hp5 hk5 hn5 hG5 hgp5 b0 HG HRO hB5
              go_upto_if 139 with fail
              go_cut [] (fun W => Hid (∃ t ow4, GivAt w c y (S.aged.rounds c (k + 1)) K base ow tb wb (sendsTo c S.aged c.n) (reportsTo c S (k + 1)) gb L t W ow4 ∧ W.ownsRow B5 3 1 (.slice A c.n cc) c.n (gl.map (.int .i64))))
              case first =>
                by_cases hrp0 : 0 ≤ rp
                · have hps := unhide HPS
                  have hge : decide (rp ≥ 0) = true := by simpa using hrp0
                  rw [if_pos hrp0] at hps
                  have HPE := hide hps
                  have hT5 := (unhide HG5).tk.tk
                  have t10 : w5.cell? ⟨tb, 10, none⟩ = some (.slice t.rA t.rn t.rc) := hT5.tk.cell 10
                  have hown := hT5.own.ro
                  have hrn : t.rn ≤ 3 := by
                    have h1 := hT5.own.ok.rl
                    rw [(unhide HG5).tk.d] at h1
                    dsimp only at h1
                    have h2 : (reportsTo c S k).length ≤ k := by
                      unfold reportsTo
                      refine Nat.le_trans (List.length_filterMap_le _ _) ?_
                      rw [List.length_range]
                      exact Nat.le_refl _
                    omega
                  have HO := hide hown
                  have HMQ := hide (show (t.rn + 1) * 8 ≤ 140737488355328 by omega)
                  have hsz := hT5.kept.only.size
                  have hrep : t.d.report = reportsTo c S k := by rw [(unhide HG5).tk.d]
                  have HREP := hide hrep
                  clear hps hown hT5 hrep
                  go_wp2_with (first
                    | (at_builtin; (refine wpList_append_new w5 rfl (.tmp 141) (.tmp 143) _ rfl w.heap.size 3 iI _ 1 8 Tryd.underlying22 hiI hzI hsI hyI rfl (by omega) (by omega) _ t.rn _ (unhide HO) rfl _ 1 _ rfl rfl rfl (by simp [Value.oneCell']) (unhide HMQ) hsz ?_); intro g4 cap4 w7 hg4 hown4 hbel4 hgr4 hat4
                       have o1 : Only (fun k => (Value.slice t.rA t.rn t.rc).ownBlock = some k) w5 w7 := (Only.refl _ w5).grown hgr4 (fun g hg _ => hg)
                       have f10 : w7.frozen? ⟨tb, 10, none⟩ = false := ((unhide HG5).tk.tk.tk.only o1 (own_blk_ne (unhide HG5).tk.tk.own.ro (unhide HG5).tk.tk.tk (by decide))).frozen 10
                       have c10 : w7.cell? ⟨tb, 10, none⟩ = some (.slice t.rA t.rn t.rc) := ((unhide HG5).tk.tk.tk.only o1 (own_blk_ne (unhide HG5).tk.tk.own.ro (unhide HG5).tk.tk.tk (by decide))).cell 10
                       obtain ⟨h8, o8⟩ := (unhide HG5).report (z := rp) hgr4 (by rw [unhide HREP] at hown4; exact hown4) (by
                         rcases hat4 with e | e
                         · exact .inl e
                         · exact .inr (by omega))
                       have hr8 := own_only (unhide HR5) o8 (fun q hq e => by
                         have h1 := ((unhide HR5).lt q hq).1
                         rcases e with rfl | e
                         · exact own_blk_ne (unhide HR5) (unhide HG5).tk.tk.tk (by decide) hq
                         · have := unhide HRB q e
                           omega)
                       have H8 := hide (show Hid (∃ t' ow4, GivAt w c y (S.aged.rounds c (k + 1)) K base ow tb wb (sendsTo c S.aged c.n) (reportsTo c S (k + 1)) gb L t' (w7.setCell ⟨tb, 10, none⟩ (.slice (some ⟨g4, 0, none⟩) (t.rn + 1) cap4)) ow4 ∧ (w7.setCell ⟨tb, 10, none⟩ (.slice (some ⟨g4, 0, none⟩) (t.rn + 1) cap4)).ownsRow B5 3 1 (.slice A c.n cc) c.n (gl.map (.int .i64))) from hide ⟨_, _, by rw [unhide HPE]; exact h8, hr8⟩)
                       clear h8 o8 hr8 o1 hg4 hown4 hbel4 hgr4 hat4))
                  go_meet
                  exact unhide H8
                · have hps := unhide HPS
                  rw [if_neg hrp0] at hps
                  have HPE := hide hps
                  have hge : decide (rp ≥ 0) = false := by simpa using hrp0
                  clear hps
                  go_wp2_with fail
                  go_meet
                  exact hide ⟨t, ow3, by rw [unhide HPE]; exact unhide HG5, unhide HR5⟩
              case rest =>
                obtain ⟨t, ow4, hG, hR⟩ := unhide hcut
                have HG0 := hide hG
                have HR0 := hide hR
                have HZ0 := hide (show L.map RwI.zs = (List.range c.n).map fun i => if i < 0 then givenTo c S (k + 1) i else givenTo c S k i from unhide HZ)
                clear hG hR HG5 HR5 HRB HZ
                go_wp2_with fail
                go_loopw [148] (fun i W => ∃ (q : Nat) (L : List RwI) (ow1 : Nat → Tag), q ≤ c.n ∧ i = .int .i64 q ∧ Hid (GivAt w c y (S.aged.rounds c (k + 1)) K base ow tb wb (sendsTo c S.aged c.n) (reportsTo c S (k + 1)) gb L t W ow1) ∧ Hid (L.map RwI.zs = (List.range c.n).map fun i => if i < q then givenTo c S (k + 1) i else givenTo c S k i) ∧ Hid (W.ownsRow B5 3 1 (.slice A c.n cc) c.n (gl.map (.int .i64))) ∧ Hid (Gap L (.slice A c.n cc))) (fun i _ => c.n - (intOf i).toNat)
                case atStart => exact ⟨0, L, ow4, Nat.zero_le _, rfl, HG0, HZ0, HR0, HGP5⟩
                case round =>
                  obtain ⟨q, L, ow5, hq, rfl, HG, HZ, HR, HGP⟩ := hrel
                  by_cases hltq : q < c.n
                  · have hltq' : (q : Int) < (c.n : Int) := by omega
                    obtain ⟨bl, ol, z, hA, _, hz, hcz⟩ := at_num (Reads.of_own (unhide HR)) hltq
                    have hzl : gl.getD q 0 = z := by rw [List.getD_eq_getElem?_getD, hz]; rfl
                    obtain ⟨r, hri, hrz, hstep⟩ := giv_step (unhide HZ) hltq (by have := unhide HGR q; rw [hzl] at this; exact this)
                    have hrr := (unhide HG).giv.rows r (List.mem_of_getElem? hri)
                    have hcl := (unhide HG).giv.cell hri
                    have hrl : r.zs.length ≤ 3 := by rw [hrz, given_len]; omega
                    obtain ⟨rA, rc, hrv, _⟩ := own_slice hrr
                    rw [hrv] at hcl
                    obtain ⟨rn, hrn⟩ : ∃ rn, rn = r.zs.length := ⟨_, rfl⟩
                    rw [← hrn] at hcl hrl hrr
                    have HO := hide hrr
                    rw [hrv, ← hrn] at HO
                    have HMQ := hide (show (rn + 1) * 8 ≤ 140737488355328 by omega)
                    have hsz := (unhide HG).tk.tk.kept.only.size
                    have HRI := hide hri
                    have HRV := hide hrv
                    have HRN := hide hrn
                    have HST := hide hstep
                    subst hA
                    clear hrr hri hrv hrn hstep hzl hz hrz hrl
                    go_wp2_with (first
                      | (at_builtin; (refine wpList_append_new wr rfl (.tmp 158) (.tmp 160) _ rfl w.heap.size 3 iI _ 1 8 Tryd.underlying22 hiI hzI hsI hyI rfl (by omega) (by omega) _ rn _ (unhide HO) rfl _ 1 _ rfl rfl rfl (by simp [Value.oneCell']) (unhide HMQ) hsz ?_); intro g4 cap4 w7 hg4 hown4 hbel4 hgr4 hat4
                         have hrvn : r.v = .slice rA rn rc := by rw [unhide HRV, unhide HRN]
                         rw [← hrvn] at hgr4 hat4
                         have o1 : Only (fun k => r.v.ownBlock = some k) wr w7 := (Only.refl _ wr).grown hgr4 (fun g hg _ => hg)
                         have hrr2 := (unhide HG).giv.rows r (List.mem_of_getElem? (unhide HRI))
                         have fgb : w7.frozen? ⟨gb, q, none⟩ = false := ((unhide HG).giv.blk.only o1 (own_blk_ne hrr2 (unhide HG).giv.blk (by decide))).frozen q
                         have cgb : w7.cell? ⟨gb, q, none⟩ = some (.slice rA rn rc) := by
                           have h1 := (Blk.cell ((unhide HG).giv.blk.only o1 (own_blk_ne hrr2 (unhide HG).giv.blk (by decide))) q).trans (((unhide HG).giv.blk.cell q).symm.trans ((unhide HG).giv.cell (unhide HRI)))
                           rw [hrvn] at h1
                           exact h1
                         have hat5 : (RwI.v ⟨.slice (some ⟨g4, 0, none⟩) (rn + 1) cap4, r.zs ++ [z]⟩).ownBlock = r.v.ownBlock ∨ ∃ k, (RwI.v ⟨.slice (some ⟨g4, 0, none⟩) (rn + 1) cap4, r.zs ++ [z]⟩).ownBlock = some k ∧ wr.heap.size ≤ k := by
                           rcases hat4 with e | e
                           · exact .inl (by rw [← e]; rfl)
                           · exact .inr ⟨g4, rfl, by omega⟩
                         obtain ⟨h8, o8⟩ := (unhide HG).push (r' := ⟨.slice (some ⟨g4, 0, none⟩) (rn + 1) cap4, r.zs ++ [z]⟩) (unhide HRI) hgr4 (by
                           dsimp only
                           rw [List.length_append, ← unhide HRN, List.map_append]
                           exact hown4) hat5
                         have hr8 := own_only (unhide HR) o8 (fun x hx e => by
                           rcases e with rfl | e
                           · exact own_blk_ne (unhide HR) (unhide HG).giv.blk (by decide) hx
                           · exact unhide HGP r (List.mem_of_getElem? (unhide HRI)) x e hx)
                         have H8 := hide h8
                         have HR8 := hide hr8
                         have HGP8 := hide ((unhide HGP).set_ (unhide HRI) hat5 (fun x hx => ((unhide HR).lt x hx).2))
                         have HZ8 := hide (unhide HST (.slice (some ⟨g4, 0, none⟩) (rn + 1) cap4))
                         clear h8 o8 hr8 o1 hg4 hown4 hbel4 hgr4 hat4 hat5 hrr2 hrvn hcl hcz))
                    go_roundw
                    case rel => exact ⟨q + 1, _, ow5, by omega, by go_num, H8, HZ8, HR8, HGP8⟩
                    case measure => simp [intOf]; omega
                  · obtain rfl : q = c.n := by omega
                    have HZF := hide (giv_full (unhide HZ))
                    go_wp2_with fail
                    go_roundw
                    case rel => exact ⟨k + 1, L, t, ow5, by omega, by go_num, HG, HZF⟩
                    case measure => simp [intOf]; omega
            · obtain rfl : k = c.m := by omega
              clear w0 h6
              have HG0 := hide (show GivAt w c y (S.aged.rounds c c.m) K base ow tb wb (sendsTo c S.aged c.n ++ grantsTo c S 0) (reportsTo c S c.m) gb L t wr ow2 by rw [show grantsTo c S 0 = [] from rfl, List.append_nil]; exact unhide HG)
              clear HG
              go_wp2_with fail
              go_loopw [167] (fun i W => ∃ (q : Nat) (t : Tol) (ow1 : Nat → Tag), q ≤ c.n ∧ i = .int .i64 q ∧ Hid (GivAt w c y (S.aged.rounds c c.m) K base ow tb wb (sendsTo c S.aged c.n ++ grantsTo c S q) (reportsTo c S c.m) gb L t W ow1)) (fun i _ => c.n - (intOf i).toNat)
              case atStart => exact ⟨0, t, ow2, Nat.zero_le _, rfl, HG0⟩
              case round =>
                obtain ⟨q, t, ow5, hq, rfl, HG⟩ := hrel
                have HSL := hide (sends_len c S.aged hn8 c.n (Nat.le_refl _))
                have HQL := hide (grants_len c S q)
                by_cases hltq : q < c.n
                · have hltq' : (q : Int) < (c.n : Int) := by omega
                  obtain ⟨r, hri, hrz⟩ := giv_at (unhide HZ) hltq
                  have hrr := (unhide HG).giv.rows r (List.mem_of_getElem? hri)
                  have hcl := (unhide HG).giv.cell hri
                  obtain ⟨rA, rc, hrv, _⟩ := own_slice hrr
                  have hcaps := own_caps (by rw [hrv] at hrr; exact hrr)
                  have HAK := hide (asks_any c ⟨rA, r.zs.length, rc, r.zs⟩ wr.heap.size wr ((unhide HG).tk.tk.pw.cfg.more (unhide HG).tk.tk.pw.bw) ⟨rfl, hcaps.2.1, hcaps.2.2, by rw [hrv] at hrr; exact Reads.of_own hrr⟩ (Nat.le_refl _))
                  rw [hrv] at hcl
                  obtain ⟨rn, hrn⟩ : ∃ rn, rn = r.zs.length := ⟨_, rfl⟩
                  rw [← hrn] at hcl
                  unfold Cfg.val AsksPost at HAK
                  dsimp only at HAK
                  rw [← hrn, hrz] at HAK
                  have hcb := ((unhide HG).tk.tk.pw.pc .con).blk
                  have e0 : wr.cell? ⟨y.hb, 0, none⟩ = some (.int .i64 c.br) := hcb.cell 0
                  have e1 : wr.cell? ⟨y.hb, 1, none⟩ = some (.slice c.la.A c.la.n c.la.c) := hcb.cell 1
                  have e2 : wr.cell? ⟨y.hb, 2, none⟩ = some (.int .i64 c.tk) := hcb.cell 2
                  have e3 : wr.cell? ⟨y.hb, 3, none⟩ = some (.slice c.mi.A c.mi.n c.mi.c) := hcb.cell 3
                  have e4 : wr.cell? ⟨y.hb, 4, none⟩ = some (.int .i64 c.cap) := hcb.cell 4
                  have w0 := (unhide HG).tk.tk.w0
                  have hnl := asksP_len c (givenTo c S c.m q) hm3.2
                  have HNL := hide hnl
                  clear hcb hri hrz hrr hrv hcaps hrn hnl
                  go_wp2_with fail
                  refine (unhide HAK).mono ?_
                  rintro _ w6 ⟨v6, rfl, ho6, hb6⟩
                  have h6 := (unhide HG).calm hb6
                  obtain ⟨A6, n6, c6, B6, rfl, hdl6, hr6⟩ := BytCut.of ho6
                  have H6 := hide h6
                  have hnl := unhide HNL
                  have hll : (sendsTo c S.aged c.n ++ grantsTo c S q).length ≤ 100 := by
                    rw [List.length_append]
                    have := unhide HSL
                    have := unhide HQL
                    omega
                  have HSE := hide (fun er => tickSend_any h6.tk.tk (show (S.lts ++ _).length ≤ 1000000 by rw [List.length_append]; have := (unhide HS).len; omega) c.n q er A6 n6 c6 (asksP c (givenTo c S c.m q)).1 w6.heap.size hdl6 (by omega) (Reads.of_own hr6) (Nat.le_refl _) (WalkArith.wf_i64 (by omega)) (WalkArith.wf_i64 (by omega)) (by have := h6.tk.sn; omega))
                  clear e0 e1 e2 e3 e4 w0 hcl ho6 hb6 hnl hll hr6 hdl6
                  have w0 := h6.tk.tk.w0
                  have h0 := h6.tk.tk.h0
                  rw [unhide HN] at h0
                  clear h6
                  go_wp2_with fail
                  refine (unhide HSE _).mono ?_
                  rintro _ w7 hp
                  obtain ⟨rfl, t4, ow7, h4⟩ := (unhide H6).send hp
                  have H4 := hide h4
                  clear hp h4 w0 h0 HSE H6 HAK
                  go_wp2_with fail
                  go_roundw
                  case rel => exact ⟨q + 1, t4, ow7, by omega, by go_num, by rw [grantsTo_succ, ← List.append_assoc]; exact H4⟩
                  case measure => simp [intOf]; omega
                · obtain rfl : q = c.n := by omega
                  have HKT := hide (unhide HG).tk.tk.tk
                  obtain ⟨g0, g1, g2, g3, g4, g5, g6, g7, g8, g9, g10⟩ := tol_cells (unhide HKT)
                  obtain ⟨f0, f1, f2, f3, f4, f5, f6, f7, f8, f9, f10⟩ := tol_free (unhide HKT)
                  go_wp2_with fail
                  change bodyPost _ _ _ _ _ (wrT wr tb t)
                  have k9 := wrT_blk (unhide HKT) rfl t
                  have HO9 := hide (wrT_only wr tb t)
                  clear g0 g1 g2 g3 g4 g5 g6 g7 g8 g9 g10 f0 f1 f2 f3 f4 f5 f6 f7 f8 f9 f10
                  generalize wrT wr tb t = w9 at k9 HO9 ⊢
                  obtain ⟨d0, d1, d2, d3, d4, d5, d6, d7, d8, d9, d10⟩ := tol_cells k9
                  refine bodyPost_ret (v := t.val) (by simp [results, Tryd.results24, go_sem, d0, d1, d2, d3, d4, d5, d6, d7, d8, d9, d10, Tol.val]) rfl ((unhide HG).fin (unhide HO9))
end
end
end Go.Proofs.YtbolcebmbpepdaaDoor
