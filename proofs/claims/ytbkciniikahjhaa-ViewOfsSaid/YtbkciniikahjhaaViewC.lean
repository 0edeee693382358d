/- Contract of ViewOf (the reference). Conditions: none beyond what each theorem states. -/
import Derived.Test.YtbkciniikahjhaaViewB
namespace Go.Proofs.Ytbkciniikahjhaa
open Go.RowKit
set_option linter.unusedVariables false

theorem below_none' {w w' : World} (h : w.grownBy w' none) : Below w.heap.size w w' := ⟨h.os, h.tape, h.output, h.size, fun k hk => h.block k hk (by simp)⟩
theorem mineB_zero (s : Nat) (who : Int) : mineB 0 s who = false := by
  unfold mineB
  by_cases h : 0 ≤ who
  · have : decide (who < ((0 : Nat) : Int)) = false := decide_eq_false (by omega)
    rw [this]; simp
  · have : decide (0 ≤ who) = false := decide_eq_false h
    rw [this]; rfl
theorem mineB_succ (j s : Nat) (who : Int) : mineB (j + 1) s who = (mineB j s who || (decide (who = (j : Int)) && s.testBit j)) := by
  unfold mineB
  by_cases h : who = (j : Int)
  · subst h
    have h1 : decide ((j : Int) < ((j + 1 : Nat) : Int)) = true := decide_eq_true (by omega)
    have h2 : decide ((j : Int) < (j : Int)) = false := decide_eq_false (by omega)
    have h3 : decide (0 ≤ (j : Int)) = true := decide_eq_true (by omega)
    rw [h1, h2, h3]
    simp
  · have h1 : decide (who < ((j + 1 : Nat) : Int)) = decide (who < (j : Int)) := by
      by_cases h2 : who < (j : Int)
      · rw [decide_eq_true h2, decide_eq_true (by omega)]
      · rw [decide_eq_false h2, decide_eq_false (by omega)]
    rw [h1, decide_eq_false h]
    simp

set_option maxRecDepth 100000 in
set_option maxHeartbeats 2000000 in
theorem viewOf_ref (c : Cfg) (A : Option Addr) (n cap : Nat) (l : List Tol) (some_ : Int) (B : Nat) (w : World) (hc : c.ok w B) (hsome : some_ ≤ 9223372036854775807) (hl : l.length = n) (hnc : n ≤ cap) (hcm : cap ≤ maxLen) (hm : n * 136 ≤ 140737488351232)
    (hr : Reads w B 11 A n (l.flatMap Tol.cells)) (hok : ∀ t ∈ l, t.ok w B ∧ t.fits) (hB : B ≤ w.heap.size) :
    Calls Try.prog 23 #[c.val, .slice A n cap, .int .i64 some_] w fun e w' => ViewPost w.heap.size (viewP c (l.map (·.d)) some_) e w w' := by
  have H1 := hide (fun W (hW : Below w.heap.size w W) => configMay_any c B W (hc.below (hW.mono hB)) (Nat.le_trans hB hW.size))
  have HBR := hide (fun h : configP c = true => config_br h)
  obtain ⟨it, hit, ht0, ht1, ht2⟩ := told_info
  obtain ⟨br, ⟨lA, ln, lc, ls⟩, tk, ⟨mA, mn, mc, ms⟩, cp⟩ := c
  unfold Cfg.val at H1 ⊢
  dsimp only at H1 HBR ⊢
  generalize hcfg : (⟨br, ⟨lA, ln, lc, ls⟩, tk, ⟨mA, mn, mc, ms⟩, cp⟩ : Cfg) = cfg at *
  have hbr : cfg.br = br := by rw [← hcfg]
  have HCBR := hide hbr
  have HR := hide (hr.more hB)
  have HL := hide hl
  have HOK := hide (fun t ht => And.intro ((hok t ht).1.more hB) (hok t ht).2)
  clear hc hcfg hbr hr hl hok
  obtain ⟨wx, hwx⟩ : ∃ wx, wx = w.alloc (.cells #[.int .i64 br, .slice lA ln lc, .int .i64 tk, .slice mA mn mc, .int .i64 cp] 24) := ⟨_, rfl⟩
  have hbx : Below w.heap.size w wx := by rw [hwx]; exact (Below.refl _ _).alloc (Nat.le_refl _) _
  have hsx : wx.heap.size = w.heap.size + 1 := by rw [hwx]; simp
  have k0 : Blk wx w.heap.size 24 #[.int .i64 br, .slice lA ln lc, .int .i64 tk, .slice mA mn mc, .int .i64 cp] := by rw [hwx]; exact Blk.new w 24 _
  have g0 : ∀ W, Below wx.heap.size wx W → W.cell? ⟨w.heap.size, 0, none⟩ = some (.int .i64 br) := fun W hW => (hW.cell (p := ⟨w.heap.size, 0, none⟩) (Blk.lt k0)).trans (Blk.cell k0 0)
  have HBX := hide hbx
  have HWX := hide hwx
  have HSX := hide hsx
  have H1' := hide (unhide H1 wx hbx)
  have g1 : wx.cell? ⟨w.heap.size, 1, none⟩ = some (.slice lA ln lc) := k0.cell 1
  have g2 : wx.cell? ⟨w.heap.size, 2, none⟩ = some (.int .i64 tk) := k0.cell 2
  have g3 : wx.cell? ⟨w.heap.size, 3, none⟩ = some (.slice mA mn mc) := k0.cell 3
  have g4 : wx.cell? ⟨w.heap.size, 4, none⟩ = some (.int .i64 cp) := k0.cell 4
  have hz0 : Below wx.heap.size wx wx := Below.refl _ _
  clear hbx hwx hsx k0 H1
  cases hcf : configP cfg with
  | false =>
    have HF := hide (show viewP cfg (l.map (·.d)) some_ = ([], 4) by unfold viewP; rw [if_pos hcf])
    rw [hcf] at H1'
    clear hcf hz0
    go_enter Try.func23, Try.ntmps23
    go_wp2_with fail
    rw [← unhide HWX]
    refine (unhide H1').mono ?_
    rintro _ w1 ⟨rfl, hb1⟩
    have HB1 := hide ((unhide HBX).trans (hb1.mono (unhide HBX).size))
    clear hb1
    go_wp2_with fail
    go_ret2
    rw [unhide HF]
    exact viewPost_nil (unhide HB1)
  | true =>
    rw [hcf] at H1'
    obtain ⟨hbr1, hbr8⟩ := unhide HBR hcf
    obtain ⟨b, rfl⟩ := Int.eq_ofNat_of_zero_le (show 0 ≤ br by omega)
    have hp1 : (2:Int) ^ b ≤ 256 := by
      have hp : (2:Nat) ^ b ≤ 2 ^ 8 := Nat.pow_le_pow_right (by omega) (show b ≤ 8 by omega)
      have : ((2 ^ b : Nat) : Int) ≤ 256 := by omega
      simpa using this
    have hp0 : (0:Int) ≤ (2:Int) ^ b := by
      have : (0 : Int) ≤ ((2 ^ b : Nat) : Int) := Int.natCast_nonneg _
      simpa using this
    have HV := hide (show viewP cfg (l.map (·.d)) some_ = if some_ < 0 ∨ (2 : Int) ^ b ≤ some_ then ([], 2) else ((l.map (·.d)).map (maskD b some_.toNat), 0) by
      unfold viewP; rw [if_neg (by rw [hcf]; simp), unhide HCBR]; rfl)
    clear hcf hz0
    by_cases hs0 : some_ < 0
    · have HF := hide (show viewP cfg (l.map (·.d)) some_ = ([], 2) by rw [unhide HV, if_pos (.inl hs0)])
      have hd1 : decide (some_ < 0) = true := decide_eq_true hs0
      go_enter Try.func23, Try.ntmps23
      go_wp2_with fail
      rw [← unhide HWX]
      refine (unhide H1').mono ?_
      rintro _ w1 ⟨rfl, hb1⟩
      have HB1 := hide ((unhide HBX).trans (hb1.mono (unhide HBX).size))
      have hz1 : Below wx.heap.size wx w1 := hb1
      clear hb1
      go_wp2_with fail
      go_ret2
      rw [unhide HF]
      exact viewPost_nil (unhide HB1)
    have hd1 : decide (some_ < 0) = false := decide_eq_false hs0
    by_cases hs1 : (2 : Int) ^ b ≤ some_
    · have HF := hide (show viewP cfg (l.map (·.d)) some_ = ([], 2) by rw [unhide HV, if_pos (.inr hs1)])
      have hd2 : decide ((2 : Int) ^ b ≤ some_) = true := decide_eq_true hs1
      go_enter Try.func23, Try.ntmps23
      go_wp2_with fail
      rw [← unhide HWX]
      refine (unhide H1').mono ?_
      rintro _ w1 ⟨rfl, hb1⟩
      have HB1 := hide ((unhide HBX).trans (hb1.mono (unhide HBX).size))
      have hz1 : Below wx.heap.size wx w1 := hb1
      clear hb1
      go_wp2_with fail
      go_ret2
      rw [unhide HF]
      exact viewPost_nil (unhide HB1)
    have hs1' : some_ < (2 : Int) ^ b := by omega
    have hd2 : decide ((2 : Int) ^ b ≤ some_) = false := decide_eq_false (by omega)
    obtain ⟨s, rfl⟩ := Int.eq_ofNat_of_zero_le (show 0 ≤ some_ by omega)
    have hs : s ≤ 255 := by omega
    have HF := hide (show viewP cfg (l.map (·.d)) s = ((l.map (·.d)).map (maskD b s), 0) by rw [unhide HV, if_neg (by omega)]; rfl)
    go_enter Try.func23, Try.ntmps23
    go_wp2_with fail
    rw [← unhide HWX]
    refine (unhide H1').mono ?_
    rintro _ w1 ⟨rfl, hb1⟩
    have hz1 : Below wx.heap.size wx w1 := hb1
    clear hb1
    go_wp2_with fail
    have hnn : n ≤ 9223372036854775807 := by unfold maxLen at hcm; omega
    have HB2 := hide hz1
    have HW0 := hide (show w.heap.size ≤ wx.heap.size from (unhide HBX).size)
    clear hz1 g1 g2 g3 g4 hs0 hs1
    go_loopw [8, 28] (fun v i wr => ∃ (k : Nat) (outs : List Tol), k ≤ n ∧ i = .int .i64 k ∧ Hid (OutT wr wx.heap.size v outs) ∧ Hid (outs.map (·.d) = (l.take k).map fun t => maskD b s t.d) ∧ Below wx.heap.size wx wr) (fun _ i _ => n - (intOf i).toNat)
    case atStart => exact ⟨0, [], Nat.zero_le _, rfl, OutT.nil _ _, rfl, unhide HB2⟩
    case round =>
      obtain ⟨k, outs, hk, rfl, HO, HM, hzr⟩ := hrel
      have hwr : w.heap.size ≤ wr.heap.size := Nat.le_trans (unhide HW0) hzr.size
      have HBW := hide ((unhide HBX).trans (hzr.mono (unhide HW0)))
      obtain ⟨A0, cA0, hv0, _, _, _, _⟩ := (unhide HO).at_
      subst hv0
      by_cases hlt : k < n
      · obtain ⟨bl, o, t, rfl, hbl, ht, hc⟩ := at_row Tol.cells_len (by omega) ((unhide HR).below (unhide HBW)) hlt (unhide HL)
        have hok := (unhide HOK t (List.mem_of_getElem? ht)).1.below (unhide HBW)
        have hft := (unhide HOK t (List.mem_of_getElem? ht)).2
        have HT := hide ht
        obtain ⟨⟨code, who, ⟨q0, q1, q2, q3, q4⟩, value, sent, frame, report⟩, sA, sn, sc, fA, fn, fc, rA, rn, rc⟩ := t
        obtain ⟨sl, sc1, sm, sr, fl, fc1, fm, fr, rl, rc1, rm, rr⟩ := hok
        obtain ⟨f1, f2, f3⟩ := hft
        dsimp only at sl sc1 sm sr fl fc1 fm fr rl rc1 rm rr f1 f2 f3
        have c0 := hc 0 _ rfl
        have c1 := hc 1 _ rfl
        have c2 := hc 2 _ rfl
        have c3 := hc 3 _ rfl
        have c4 := hc 4 _ rfl
        have c5 := hc 5 _ rfl
        have c6 := hc 6 _ rfl
        have c7 := hc 7 _ rfl
        have c8 := hc 8 _ rfl
        have c9 := hc 9 _ rfl
        have c10 := hc 10 _ rfl
        simp only [Nat.add_zero] at c0
        dsimp only at c0 c1 c2 c3 c4 c5 c6 c7 c8 c9 c10
        obtain ⟨wy, hwy⟩ : ∃ wy, wy = wr.alloc (.cells #[.int .i64 code, .int .i64 who, .int .i64 q0, .int .i64 q1, .int .i64 q2, .int .i64 q3, .int .i64 q4, .int .i64 value, .slice sA sn sc, .slice fA fn fc, .slice rA rn rc] 77) := ⟨_, rfl⟩
        have hby : Below wr.heap.size wr wy := by rw [hwy]; exact (Below.refl _ _).alloc (Nat.le_refl _) _
        have hsy : wy.heap.size = wr.heap.size + 1 := by rw [hwy]; simp
        have k1 : Blk wy wr.heap.size 77 #[.int .i64 code, .int .i64 who, .int .i64 q0, .int .i64 q1, .int .i64 q2, .int .i64 q3, .int .i64 q4, .int .i64 value, .slice sA sn sc, .slice fA fn fc, .slice rA rn rc] := by rw [hwy]; exact Blk.new wr 77 _
        have r0 : ∀ W, Below wy.heap.size wy W → W.cell? ⟨wr.heap.size, 0, none⟩ = some (.int .i64 code) := fun W hW => (hW.cell (p := ⟨wr.heap.size, 0, none⟩) (Blk.lt k1)).trans (Blk.cell k1 0)
        have r1 : ∀ W, Below wy.heap.size wy W → W.cell? ⟨wr.heap.size, 1, none⟩ = some (.int .i64 who) := fun W hW => (hW.cell (p := ⟨wr.heap.size, 1, none⟩) (Blk.lt k1)).trans (Blk.cell k1 1)
        have r2 : ∀ W, Below wy.heap.size wy W → W.cell? ⟨wr.heap.size, 2, none⟩ = some (.int .i64 q0) := fun W hW => (hW.cell (p := ⟨wr.heap.size, 2, none⟩) (Blk.lt k1)).trans (Blk.cell k1 2)
        have r3 : ∀ W, Below wy.heap.size wy W → W.cell? ⟨wr.heap.size, 3, none⟩ = some (.int .i64 q1) := fun W hW => (hW.cell (p := ⟨wr.heap.size, 3, none⟩) (Blk.lt k1)).trans (Blk.cell k1 3)
        have r4 : ∀ W, Below wy.heap.size wy W → W.cell? ⟨wr.heap.size, 4, none⟩ = some (.int .i64 q2) := fun W hW => (hW.cell (p := ⟨wr.heap.size, 4, none⟩) (Blk.lt k1)).trans (Blk.cell k1 4)
        have r5 : ∀ W, Below wy.heap.size wy W → W.cell? ⟨wr.heap.size, 5, none⟩ = some (.int .i64 q3) := fun W hW => (hW.cell (p := ⟨wr.heap.size, 5, none⟩) (Blk.lt k1)).trans (Blk.cell k1 5)
        have r6 : ∀ W, Below wy.heap.size wy W → W.cell? ⟨wr.heap.size, 6, none⟩ = some (.int .i64 q4) := fun W hW => (hW.cell (p := ⟨wr.heap.size, 6, none⟩) (Blk.lt k1)).trans (Blk.cell k1 6)
        have r7 : ∀ W, Below wy.heap.size wy W → W.cell? ⟨wr.heap.size, 7, none⟩ = some (.int .i64 value) := fun W hW => (hW.cell (p := ⟨wr.heap.size, 7, none⟩) (Blk.lt k1)).trans (Blk.cell k1 7)
        have r8 : ∀ W, Below wy.heap.size wy W → W.cell? ⟨wr.heap.size, 8, none⟩ = some (.slice sA sn sc) := fun W hW => (hW.cell (p := ⟨wr.heap.size, 8, none⟩) (Blk.lt k1)).trans (Blk.cell k1 8)
        have r9 : ∀ W, Below wy.heap.size wy W → W.cell? ⟨wr.heap.size, 9, none⟩ = some (.slice fA fn fc) := fun W hW => (hW.cell (p := ⟨wr.heap.size, 9, none⟩) (Blk.lt k1)).trans (Blk.cell k1 9)
        have r10 : ∀ W, Below wy.heap.size wy W → W.cell? ⟨wr.heap.size, 10, none⟩ = some (.slice rA rn rc) := fun W hW => (hW.cell (p := ⟨wr.heap.size, 10, none⟩) (Blk.lt k1)).trans (Blk.cell k1 10)
        have hkn : (k : Int) < (n : Int) := by omega
        have HX := hide (And.intro sr (And.intro fr rr))
        have HWY := hide hwy
        have HBY := hide hby
        have HSY := hide hsy
        have hzy : Below wy.heap.size wy wy := Below.refl _ _
        clear ht hc hby hwy hsy k1 sr fr rr
        go_upto_region 9 with fail
        rw [← unhide HWY]
        go_wp2_with fail
        have hzwy : Below wx.heap.size wx wy := hzr.trans ((unhide HBY).mono hzr.size)
        go_loop [11, 12] (fun m i => ∃ j : Nat, j ≤ b ∧ i = .int .i64 j ∧ m = .bool (mineB j s who)) (fun _ i => b - (intOf i).toNat)
        case atStart => exact ⟨0, Nat.zero_le _, rfl, by rw [mineB_zero]⟩
        case round =>
          obtain ⟨j, hj, rfl, rfl⟩ := hrel
          by_cases hjb : j < b
          · have hjb' : (j : Int) < (b : Int) := by omega
            have hj8 : j ≤ 8 := by omega
            have HIN := hide (fun W => labReads_any s j hs hj8 W)
            have HS := hide (mineB_succ j s who)
            cases hm : mineB j s who with
            | true =>
              have HS2 := hide (show mineB (j+1) s who = true by rw [unhide HS, hm]; rfl)
              clear hm
              go_wp2_with fail
              go_round
              case rel => exact ⟨j+1, by omega, by go_num, by rw [unhide HS2]⟩
              case measure => simp [intOf]; omega
            | false =>
              by_cases hwj : who = (j : Int)
              · have HS2 := hide (show mineB (j+1) s who = s.testBit j by rw [unhide HS, hm, decide_eq_true hwj]; rfl)
                subst hwj
                clear hm
                go_wp2_with fail
                refine (unhide HIN _).mono ?_
                rintro _ _ ⟨rfl, rfl⟩
                go_wp2_with fail
                go_round
                case rel =>
                  first
                    | exact ⟨j+1, by omega, by go_num, by rw [unhide HS2]⟩
                    | (repeat apply Exists.intro
                       exact ⟨⟨j+1, by omega, by go_num, by rw [unhide HS2]⟩, rfl⟩)
                case measure => simp [intOf]; omega
              · have HS2 := hide (show mineB (j+1) s who = false by rw [unhide HS, hm, decide_eq_false hwj]; rfl)
                clear hm
                go_wp2_with fail
                go_round
                case rel => exact ⟨j+1, by omega, by go_num, by rw [unhide HS2]⟩
                case measure => simp [intOf]; omega
          · obtain rfl : j = b := by omega
            clear hj hjb c0 c1 c2 c3 c4 c5 c6 c7 c8 c9 c10
            go_upto_region 15 with fail
            obtain ⟨wz, hwz⟩ : ∃ wz, wz = wy.alloc (.cells #[.int .i64 code, .int .i64 who, .int .i64 q0, .int .i64 q1, .int .i64 q2, .int .i64 q3, .int .i64 q4, .int .i64 value, .slice sA sn sc, .slice fA fn fc, .slice rA rn rc] 77) := ⟨_, rfl⟩
            have hzz : Below wy.heap.size wy wz := by rw [hwz]; exact (Below.refl _ _).alloc (Nat.le_refl _) _
            have hsz : wz.heap.size = wy.heap.size + 1 := by rw [hwz]; simp
            have kz : Blk wz wy.heap.size 77 #[.int .i64 code, .int .i64 who, .int .i64 q0, .int .i64 q1, .int .i64 q2, .int .i64 q3, .int .i64 q4, .int .i64 value, .slice sA sn sc, .slice fA fn fc, .slice rA rn rc] := by rw [hwz]; exact Blk.new wy 77 _
            obtain ⟨p, hp⟩ : ∃ p, p = wy.heap.size := ⟨_, rfl⟩
            have hpz : p < wz.heap.size := by omega
            have hxw : wx.heap.size ≤ p := by rw [hp]; exact hzwy.size
            rw [← hwz, ← hp]
            rw [← hp] at kz
            have HP := hide hp
            clear hp
            obtain ⟨i0, hi, hz0, hz1, hz2⟩ := cloneE_info
            obtain ⟨i1, hi1, hy0, hy1, hy2⟩ := int_info
            obtain ⟨i2, hi2, hx0, hx1, hx2⟩ := cloneB_info
            have h63 : 0 + sn ≤ maxLen := by omega
            have hbyt : (0 + sn) * 32 ≤ 140737488355328 := by omega
            have h63r : 0 + rn ≤ maxLen := by omega
            have hbytr : (0 + rn) * 8 ≤ 140737488355328 := by omega
            have h63f : 0 + fn ≤ maxLen := by omega
            have hbytf : (0 + fn) * 1 ≤ 140737488355328 := by omega
            have HKZ := hide kz
            have HWZ := hide hwz
            have hdw : Below w.heap.size wr wz := ((unhide HBY).trans (hzz.mono (unhide HBY).size)).mono hwr
            have HSR := hide ((unhide HX).1.below hdw)
            have HFR := hide ((unhide HX).2.1.below hdw)
            have HRR := hide ((unhide HX).2.2.below hdw)
            have hswz : w.heap.size ≤ wz.heap.size := Nat.le_trans hwr hdw.size
            clear kz hwz hdw
            go_upto_region 16 with (first
              | (at_builtin; (refine wpList_append_any _ rfl (.const (.slice none 0 0)) (.tmp 52) _ rfl wx.heap.size 80 i0 _ 4 32 Try.underlying75 hi hz0 hz1 hz2 rfl (by omega) _ 0 _ rfl (World.ownsRow_nil _ _ _ _) w.heap.size sA sn sc (sent.flatMap Envl.cells) rfl (unhide HSR) (envs_one sent) h63 hbyt (by omega) ?_); intro v2 w2 hown2 hg2 _; have hb2 := below_none' hg2; have HO2 := hide (show w2.ownsRow wx.heap.size 80 4 v2 sn (sent.flatMap Envl.cells) by simpa using hown2); obtain ⟨A2, c2, rfl, _⟩ := own_slice (unhide HO2); have HK2 := hide ((unhide HKZ).below hb2 hpz); have z8 : w2.cell? ⟨p, 8, none⟩ = some (.slice sA sn sc) := (unhide HK2).cell 8; have f8 := (unhide HK2).frozen 8; have HB2' := hide hb2; clear hown2 hg2 hb2))
            obtain ⟨w3, hw3⟩ : ∃ w3, w3 = w2.setCell ⟨p, 8, none⟩ (.slice A2 sn c2) := ⟨_, rfl⟩
            have hyp : wy.heap.size ≤ p := by rw [unhide HP]; exact Nat.le_refl _
            have hwp : w.heap.size ≤ p := by have := (unhide HW0); omega
            have ho3 : Only (fun k => k = p) w2 w3 := by rw [hw3]; exact only_put (Only.refl _ _) _ _
            have hb3 : Below wy.heap.size wy w3 := by rw [hw3]; exact below_put (hzz.trans ((unhide HB2').mono hzz.size)) hyp _ _
            have HK3 := hide (show Blk w3 p 77 #[.int .i64 code, .int .i64 who, .int .i64 q0, .int .i64 q1, .int .i64 q2, .int .i64 q3, .int .i64 q4, .int .i64 value, .slice A2 sn c2, .slice fA fn fc, .slice rA rn rc] by rw [hw3]; exact (unhide HK2).set_ 8 _)
            have HO23 := hide (own_only (unhide HO2) ho3 (fun g hg e => own_blk_ne (unhide HO2) (unhide HK2) (by decide) (by rw [hg, e])))
            have hpw3 : Below w.heap.size wz w3 := ((unhide HB2').mono hswz).trans (ho3.to_below (fun x hx _ e => by omega) (Nat.le_trans hswz (unhide HB2').size))
            have HRR3 := hide ((unhide HRR).below hpw3)
            have HFR3 := hide ((unhide HFR).below hpw3)
            have hsw3 : w.heap.size ≤ w3.heap.size := Nat.le_trans hswz hpw3.size
            have hp3 : p < w3.heap.size := (unhide HK3).lt
            rw [← hw3]
            have HN3 := hide ho3
            clear hw3 ho3 hpw3 z8 f8
            go_upto_region 17 with (first
              | (at_builtin; (refine wpList_append_any _ rfl (.const (.slice none 0 0)) (.tmp 56) _ rfl wx.heap.size 3 i1 _ 1 8 Try.underlying22 hi1 hy0 hy1 hy2 rfl (by omega) _ 0 _ rfl (World.ownsRow_nil _ _ _ _) w.heap.size rA rn rc (report.map (.int .i64)) rfl (unhide HRR3) (ints_one' .i64 report) h63r hbytr (by omega) ?_); intro v4 w4 hown4 hg4 _; have hb4 := below_none' hg4; have HO4 := hide (show w4.ownsRow wx.heap.size 3 1 v4 rn (report.map (.int .i64)) by simpa using hown4); obtain ⟨A4, c4, rfl, _⟩ := own_slice (unhide HO4); have HK4 := hide ((unhide HK3).below hb4 hp3); have z10 : w4.cell? ⟨p, 10, none⟩ = some (.slice rA rn rc) := (unhide HK4).cell 10; have f10 := (unhide HK4).frozen 10; have HB4' := hide hb4; clear hown4 hg4 hb4))
            obtain ⟨w5, hw5⟩ : ∃ w5, w5 = w4.setCell ⟨p, 10, none⟩ (.slice A4 rn c4) := ⟨_, rfl⟩
            have ho5 : Only (fun k => k = p) w4 w5 := by rw [hw5]; exact only_put (Only.refl _ _) _ _
            have hb5 : Below wy.heap.size wy w5 := by rw [hw5]; exact below_put (hb3.trans ((unhide HB4').mono hb3.size)) hyp _ _
            have HK5 := hide (show Blk w5 p 77 #[.int .i64 code, .int .i64 who, .int .i64 q0, .int .i64 q1, .int .i64 q2, .int .i64 q3, .int .i64 q4, .int .i64 value, .slice A2 sn c2, .slice fA fn fc, .slice A4 rn c4] by rw [hw5]; exact (unhide HK4).set_ 10 _)
            have HO24 := hide (own_below' (unhide HO23) (unhide HB4'))
            have HO25 := hide (own_only (unhide HO24) ho5 (fun g hg e => own_blk_ne (unhide HO24) (unhide HK4) (by decide) (by rw [hg, e])))
            have HO45 := hide (own_only (unhide HO4) ho5 (fun g hg e => own_blk_ne (unhide HO4) (unhide HK4) (by decide) (by rw [hg, e])))
            have hpw5 : Below w.heap.size w3 w5 := ((unhide HB4').mono hsw3).trans (ho5.to_below (fun x hx _ e => by omega) (Nat.le_trans hsw3 (unhide HB4').size))
            have HFR5 := hide ((unhide HFR3).below hpw5)
            have hsw5 : w.heap.size ≤ w5.heap.size := Nat.le_trans hsw3 hpw5.size
            have hp5 : p < w5.heap.size := (unhide HK5).lt
            rw [← hw5]
            have HN5 := hide ho5
            clear hw5 ho5 hpw5 z10 f10
            go_upto_region 18 with (first
              | (at_builtin; (refine wpList_append_any _ rfl (.const (.slice none 0 0)) (.tmp 60) _ rfl wx.heap.size 5 i2 _ 1 1 Try.underlying26 hi2 hx0 hx1 hx2 rfl (by omega) _ 0 _ rfl (World.ownsRow_nil _ _ _ _) w.heap.size fA fn fc (frame.map (.int .u8)) rfl (unhide HFR5) (ints_one' .u8 frame) h63f hbytf (by omega) ?_); intro v6 w6 hown6 hg6 _; have hb6 := below_none' hg6; have HO6 := hide (show w6.ownsRow wx.heap.size 5 1 v6 fn (frame.map (.int .u8)) by simpa using hown6); obtain ⟨A6, c6, rfl, _⟩ := own_slice (unhide HO6); have HK6 := hide ((unhide HK5).below hb6 hp5); have z9 : w6.cell? ⟨p, 9, none⟩ = some (.slice fA fn fc) := (unhide HK6).cell 9; have f9 := (unhide HK6).frozen 9; have HB6' := hide hb6; clear hown6 hg6 hb6))
            obtain ⟨w7, hw7⟩ : ∃ w7, w7 = w6.setCell ⟨p, 9, none⟩ (.slice A6 fn c6) := ⟨_, rfl⟩
            have ho7 : Only (fun k => k = p) w6 w7 := by rw [hw7]; exact only_put (Only.refl _ _) _ _
            have HK7 := hide (show Blk w7 p 77 #[.int .i64 code, .int .i64 who, .int .i64 q0, .int .i64 q1, .int .i64 q2, .int .i64 q3, .int .i64 q4, .int .i64 value, .slice A2 sn c2, .slice A6 fn c6, .slice A4 rn c4] by rw [hw7]; exact (unhide HK6).set_ 9 _)
            have HO26 := hide (own_below' (unhide HO25) (unhide HB6'))
            have HO46 := hide (own_below' (unhide HO45) (unhide HB6'))
            have HO27 := hide (own_only (unhide HO26) ho7 (fun g hg e => own_blk_ne (unhide HO26) (unhide HK6) (by decide) (by rw [hg, e])))
            have HO47 := hide (own_only (unhide HO46) ho7 (fun g hg e => own_blk_ne (unhide HO46) (unhide HK6) (by decide) (by rw [hg, e])))
            have HO67 := hide (own_only (unhide HO6) ho7 (fun g hg e => own_blk_ne (unhide HO6) (unhide HK6) (by decide) (by rw [hg, e])))
            have hall : Only (fun k => k = p) wz w7 := ((((((Only.refl _ wz).calm (unhide HB2')).trans (unhide HN3) (fun _ _ h => h)).calm (unhide HB4')).trans (unhide HN5) (fun _ _ h => h)).calm (unhide HB6')).trans ho7 (fun _ _ h => h)
            have hyz : Below wr.heap.size wr wz := (unhide HBY).trans (hzz.mono (unhide HBY).size)
            have hnp : Value.ownBlock (.slice A0 outs.length cA0) ≠ some p := fun e => by
              have h1 := ((unhide HO).1.lt p e).2
              have h2 := (unhide HBY).size
              omega
            have HOC7 := hide (outT_only ((unhide HO).below hyz) (unhide HKZ) hnp hall)
            have hZC : Below wx.heap.size wx w7 := (hzwy.trans (hzz.mono hzwy.size)).trans (hall.to_below (fun x hx _ e => by omega) (by omega))
            have hp7 : p < w7.heap.size := (unhide HK7).lt
            have HLEN := hide (outT_len (unhide HM) (by rw [unhide HL]; omega))
            rw [← hw7]
            have m0 := (unhide HK7).cell 0
            have m1 := (unhide HK7).cell 1
            have m2 := (unhide HK7).cell 2
            have m3 := (unhide HK7).cell 3
            have m4 := (unhide HK7).cell 4
            have m5 := (unhide HK7).cell 5
            have m6 := (unhide HK7).cell 6
            have m7 := (unhide HK7).cell 7
            have m8 := (unhide HK7).cell 8
            have m9 := (unhide HK7).cell 9
            have m10 := (unhide HK7).cell 10
            clear hw7 ho7 hall z9 f9 hb3 hb5
            cases hmn : mineB j s who with
            | true =>
              have HMK := hide (show maskD j s ⟨code, who, ⟨q0, q1, q2, q3, q4⟩, value, sent, frame, report⟩ = ⟨code, who, ⟨q0, q1, q2, q3, q4⟩, value, sent, frame, report⟩ from if_pos hmn)
              have HOC := hide (unhide HOC7)
              have HZC := hide hZC
              have HSZ := hide hZC.size
              have HTO := hide (show TolOwn (⟨⟨code, who, ⟨q0, q1, q2, q3, q4⟩, value, sent, frame, report⟩, A2, sn, c2, A6, fn, c6, A4, rn, c4⟩ : Tol) w7 wx.heap.size from ⟨unhide HO27, unhide HO67, unhide HO47⟩)
              clear hmn
              have HMC := hide (show (outs ++ [(⟨⟨code, who, ⟨q0, q1, q2, q3, q4⟩, value, sent, frame, report⟩, A2, sn, c2, A6, fn, c6, A4, rn, c4⟩ : Tol)]).map (·.d) = (l.take (k + 1)).map fun t => maskD j s t.d by
                rw [take_snoc l k _ (unhide HT), List.map_append, List.map_append, unhide HM]
                congr 1
                exact congrArg (fun x => [x]) (unhide HMK).symm)
              go_wp2_with (first
                | (at_builtin; (refine wpList_append_new _ rfl (.tmp 70) (.tmp 72) _ rfl wx.heap.size 77 it _ 11 136 Try.underlying43 hit ht0 ht1 ht2 rfl (by omega) (by omega) _ _ _ (unhide HOC).1 rfl _ 1 _ rfl rfl rfl (by simp [Value.oneCell']) (by rw [unhide HLEN]; omega) (unhide HSZ) ?_); intro g8 cap8 w8 hg8 hown8 hbel8 hgr8 hat8))
              have HO8 := hide ((unhide HOC).push (unhide HTO) hgr8 hown8)
              have HB8 := hide (hbel8 wx.heap.size wx (Nat.le_refl _) (unhide HZC))
              clear hown8 hbel8 hgr8 hat8 hg8
              go_roundw
              case rel => exact ⟨k + 1, _, by omega, by go_num, HO8, HMC, unhide HB8⟩
              case measure => simp [intOf]; omega
            | false =>
              have HMK := hide (show maskD j s ⟨code, who, ⟨q0, q1, q2, q3, q4⟩, value, sent, frame, report⟩ = ⟨0, who, Stk.none, 0, sent, [], report⟩ from if_neg (by rw [hmn]; decide))
              have f0 := (unhide HK7).frozen 0
              have f2 := (unhide HK7).frozen 2
              have f3 := (unhide HK7).frozen 3
              have f4 := (unhide HK7).frozen 4
              have f5 := (unhide HK7).frozen 5
              have f6 := (unhide HK7).frozen 6
              have f7 := (unhide HK7).frozen 7
              have f9 := (unhide HK7).frozen 9
              clear hmn
              go_upto_region 23 with fail
              obtain ⟨WF, hWF⟩ : ∃ WF, WF = ((((((((w7.setCell ⟨p, 0, none⟩ (.int .i64 0)).setCell ⟨p, 2, none⟩ (.int .i64 0)).setCell ⟨p, 3, none⟩ (.int .i64 0)).setCell ⟨p, 4, none⟩ (.int .i64 0)).setCell ⟨p, 5, none⟩ (.int .i64 0)).setCell ⟨p, 6, none⟩ (.int .i64 0)).setCell ⟨p, 7, none⟩ (.int .i64 0)).setCell ⟨p, 9, none⟩ (.slice none 0 0)) := ⟨_, rfl⟩
              have kF : Blk WF p 77 #[.int .i64 0, .int .i64 who, .int .i64 0, .int .i64 0, .int .i64 0, .int .i64 0, .int .i64 0, .int .i64 0, .slice A2 sn c2, .slice none 0 0, .slice A4 rn c4] := by
                rw [hWF]
                exact blk_told (unhide HK7) _ _ _ _ _ _ _ _
              have hOF : Only (fun k => k = p) w7 WF := by
                rw [hWF]
                exact only_put (only_put (only_put (only_put (only_put (only_put (only_put (only_put (Only.refl _ _) _ _) _ _) _ _) _ _) _ _) _ _) _ _) _ _
              have HOC := hide (outT_only (unhide HOC7) (unhide HK7) hnp hOF)
              have HOF2 := hide (own_only (unhide HO27) hOF (fun g hg e => own_blk_ne (unhide HO27) (unhide HK7) (by decide) (by rw [hg, e])))
              have HOF3 := hide (own_only (unhide HO47) hOF (fun g hg e => own_blk_ne (unhide HO47) (unhide HK7) (by decide) (by rw [hg, e])))
              have HZC := hide (hZC.trans (hOF.to_below (fun x hx _ e => by omega) hZC.size))
              have HSZ := hide (unhide HZC).size
              have HTO := hide (show TolOwn (⟨⟨0, who, Stk.none, 0, sent, [], report⟩, A2, sn, c2, none, 0, 0, A4, rn, c4⟩ : Tol) WF wx.heap.size from ⟨unhide HOF2, World.ownsRow_nil _ _ _ _, unhide HOF3⟩)
              rw [← hWF]
              have m0 := kF.cell 0
              have m1 := kF.cell 1
              have m2 := kF.cell 2
              have m3 := kF.cell 3
              have m4 := kF.cell 4
              have m5 := kF.cell 5
              have m6 := kF.cell 6
              have m7 := kF.cell 7
              have m8 := kF.cell 8
              have m9 := kF.cell 9
              have m10 := kF.cell 10
              clear hWF kF hOF f0 f2 f3 f4 f5 f6 f7 f9
              have HMC := hide (show (outs ++ [(⟨⟨0, who, Stk.none, 0, sent, [], report⟩, A2, sn, c2, none, 0, 0, A4, rn, c4⟩ : Tol)]).map (·.d) = (l.take (k + 1)).map fun t => maskD j s t.d by
                rw [take_snoc l k _ (unhide HT), List.map_append, List.map_append, unhide HM]
                congr 1
                exact congrArg (fun x => [x]) (unhide HMK).symm)
              go_wp2_with (first
                | (at_builtin; (refine wpList_append_new _ rfl (.tmp 70) (.tmp 72) _ rfl wx.heap.size 77 it _ 11 136 Try.underlying43 hit ht0 ht1 ht2 rfl (by omega) (by omega) _ _ _ (unhide HOC).1 rfl _ 1 _ rfl rfl rfl (by simp [Value.oneCell']) (by rw [unhide HLEN]; omega) (unhide HSZ) ?_); intro g8 cap8 w8 hg8 hown8 hbel8 hgr8 hat8))
              have HO8 := hide ((unhide HOC).push (unhide HTO) hgr8 hown8)
              have HB8 := hide (hbel8 wx.heap.size wx (Nat.le_refl _) (unhide HZC))
              clear hown8 hbel8 hgr8 hat8 hg8
              go_roundw
              case rel => exact ⟨k + 1, _, by omega, by go_num, HO8, HMC, unhide HB8⟩
              case measure => simp [intOf]; omega
      · obtain rfl : k = n := by omega
        have HE := hide (show outs.map (·.d) = (viewP cfg (l.map (·.d)) s).1 by
          rw [unhide HF, unhide HM, List.take_of_length_le (by rw [unhide HL]; exact Nat.le_refl _), List.map_map]
          rfl)
        have HOF := hide (show OutT wr w.heap.size (.slice A0 outs.length cA0) outs from ⟨own_mono (unhide HO).1 (unhide HW0), fun t ht => ((unhide HO).2 t ht).mono (unhide HW0)⟩)
        clear HO HM
        go_wp2_with fail
        go_ret2
        refine ⟨_, outs, ?_, unhide HOF, unhide HE, unhide HBW⟩
        rw [unhide HF]
        rfl
end Go.Proofs.Ytbkciniikahjhaa
