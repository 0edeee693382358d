/- The reference's FrameHeard, where it tells. Conditions: none beyond what each theorem states. -/
import Derived.Test.YtbkciniikahjhaaHeaG
namespace Go.Proofs.Ytbkciniikahjhaa
open Go.RowKit
set_option linter.unusedVariables false

theorem rumourP_u8 (c : Cfg) (a b : Int) (rows : List (List Ent)) : ∀ z ∈ (rumourP c a b rows).1, 0 ≤ z ∧ z ≤ 255 := by
  intro z hz
  unfold rumourP at hz
  split at hz
  · cases hz
  split at hz
  · cases hz
  split at hz
  · cases hz
  split at hz
  · cases hz
  split at hz
  · cases hz
  · unfold bytesOf at hz
    obtain ⟨i, _, rfl⟩ := List.mem_map.1 hz
    have := byteOf_le (allBits (rumFs rows (bothGo a.toNat b.toNat c.la.zs 0))) (allBits_le _) i
    omega
/-- what the taking of bits leaves -/
def TkPost (wb : World) (pa v at1 : Nat) (W : World) (e : Ending) (w' : World) : Prop := e = .returned (.int .i64 v) ∧ Only (fun k => k = pa) W w' ∧ Blk w' pa 3 #[.int .i64 ((at1 : Nat) : Int)] ∧ Below wb.heap.size wb w'
set_option maxRecDepth 100000 in
set_option maxHeartbeats 8000000 in
theorem refHeard_good (c : Cfg) (a b : Nat) (bA : Option Addr) (bn bc : Nat) (bs : List Int) (B : Nat) (w : World) (hc : c.ok w B) (hB : B ≤ w.heap.size) (hbl : bs.length = bn) (hbn : bn ≤ bc) (hbm : bc ≤ maxLen) (hbr : Reads w B 1 bA bn (bs.map (.int .u8))) (hbz : ∀ z ∈ bs, 0 ≤ z ∧ z ≤ 255) (hcf : configP c = true) (hab : brOk c a = true ∧ brOk c b = true) :
    Calls Try.prog 20 #[c.val, .int .i64 a, .int .i64 b, .slice bA bn bc] w (HeaPost (heardP c a b bs) w) := by
  obtain ⟨b1, b2, b3, b4⟩ := config_br hcf
  have ha8 : a ≤ 8 := by have := hab.1; unfold brOk at this; simp at this; omega
  have hb8 : b ≤ 8 := by have := hab.2; unfold brOk at this; simp at this; omega
  have hab' := hab
  unfold brOk at hab'
  simp only [Bool.and_eq_true, decide_eq_true_eq] at hab'
  have hll := hc.1.1
  have hln4 : c.la.n ≤ 4 := by omega
  have hisl := bothGo_len a b c.la.zs 0
  have HHP := hide (show heardP c a b bs = if (rumourP c a b (rowsN bs (bothGo a b c.la.zs 0) c.la.n (8 * (bothGo a b c.la.zs 0).length))).2 = 0 ∧ (rumourP c a b (rowsN bs (bothGo a b c.la.zs 0) c.la.n (8 * (bothGo a b c.la.zs 0).length))).1 = bs then (rowsN bs (bothGo a b c.la.zs 0) c.la.n (8 * (bothGo a b c.la.zs 0).length), 0) else ([], 4) by
    have h := heard_law c a b bs hbz hcf hab (bothGo a b c.la.zs 0) rfl _ rfl
    rw [hll] at h
    unfold heardP
    rw [if_neg (by rw [hcf]; simp), if_neg (by rw [hab.1, hab.2]; simp), Int.toNat_natCast, Int.toNat_natCast, hll]
    by_cases h1 : bs.length = 34 * (bothGo a b c.la.zs 0).length
    · rw [if_neg (by simpa using h1)]
      by_cases h2 : goodAll bs (bothGo a b c.la.zs 0).length = true
      · rw [if_pos h2, if_pos (h.2 ⟨h1, h2⟩)]
      · rw [if_neg h2, if_neg (fun h3 => h2 (h.1 h3).2)]
    · rw [if_pos (by simpa using h1), if_neg (fun h3 => h1 (h.1 h3).1)])
  have HMY := hide (fun W (hW : Below w.heap.size w W) => configMay_any c B W (hc.below (hW.mono hB)) (Nat.le_trans hB hW.size))
  rw [hcf] at HMY
  have HRU := hide (fun W (t : TabR) (hW : Below w.heap.size w W) (ht : TabOk W W.heap.size t) => refRumour_any c a b t W.heap.size W ((hc.below (hW.mono hB)).more (Nat.le_trans hB hW.size)) ht (Nat.le_refl _))
  have HLR := hide (hc.1.2.2.2.more hB)
  have HLL := hide hll
  have HZ := hide b4
  have HBRD := hide (hbr.more hB)
  have HBZ := hide hbz
  have HBL := hide hbl
  obtain ⟨iE, hiE, hzE, hsE, hyE⟩ : ∃ i, Try.prog.info? 65 = some i ∧ i.zero = some (.agg #[.int .i64 0, .int .i64 0, .int .i64 0, .int .i64 0, .bool false]) ∧ i.size = 5 ∧ i.bytes = 40 := info_of (by kernel_rfl)
  obtain ⟨iL, hiL, zL, hzL, hcL, hsL, hyL⟩ : ∃ i, Try.prog.info? 60 = some i ∧ ∃ z, i.zero = some z ∧ z.cells.toList = [Value.slice none 0 0] ∧ i.size = 1 ∧ i.bytes = 24 := info_of_cells (by kernel_rfl)
  obtain ⟨w1, hw1⟩ : ∃ w1, w1 = (w.alloc (.cells c.cells.toArray 24)).alloc (.cells #[.slice bA bn bc] 26) := ⟨_, rfl⟩
  have hb0 : Below w.heap.size w (w.alloc (.cells c.cells.toArray 24)) := (Below.refl _ _).alloc (Nat.le_refl _) _
  have hb1 : Below w.heap.size w w1 := by rw [hw1]; exact hb0.alloc hb0.size _
  obtain ⟨p, hp⟩ : ∃ p, p = w.heap.size := ⟨_, rfl⟩
  have kb : Blk w1 p 24 c.cells.toArray := by
    rw [hw1, hp]
    exact (Blk.new w _ _).below ((Below.refl _ _).alloc (Nat.le_refl _) _) (Blk.new w _ _).lt
  have kg : Blk w1 (p + 1) 26 #[.slice bA bn bc] := by
    rw [hw1, hp]
    have h := Blk.new (w.alloc (.cells c.cells.toArray 24)) 26 #[.slice bA bn bc]
    simpa using h
  have hpw := hp
  have HB1 := hide hb1
  have HW1 := hide hw1
  have HP := hide hp
  have HKG := hide kg
  have k0 := fun (W : World) (hz : Below w1.heap.size w1 W) => (kb.below hz kb.lt).cell 0
  have k1 := fun (W : World) (hz : Below w1.heap.size w1 W) => (kb.below hz kb.lt).cell 1
  have k2 := fun (W : World) (hz : Below w1.heap.size w1 W) => (kb.below hz kb.lt).cell 2
  have k3 := fun (W : World) (hz : Below w1.heap.size w1 W) => (kb.below hz kb.lt).cell 3
  have k4 := fun (W : World) (hz : Below w1.heap.size w1 W) => (kb.below hz kb.lt).cell 4
  have kg0 := fun (W : World) (hz : Below w1.heap.size w1 W) => (kg.below hz kg.lt).cell 0
  have hz1 : Below w1.heap.size w1 w1 := Below.refl _ _
  have hbcm := hbm
  unfold maxLen at hbcm
  clear hb0 hb1 kb kg hp hpw hw1 hc hcf hab b1 b2 b3 b4 hll hbr hbz hbl
  obtain ⟨br, ⟨lA, ln, lc, ls⟩, tk, ⟨mA, mn, mc, ms⟩, cap⟩ := c
  dsimp only at hln4 hisl
  have hmk := fun W => run_make_rowN (P := Try.prog) 36 60 iL _ Try.underlying36 hiL hzL .i64 .i64 ln ln (Nat.le_refl _) (by rw [hyL]; omega) (by omega) W
  rw [hsL, Nat.mul_one, made_nil ln zL.cells hcL] at hmk
  have HMK := hide hmk
  clear hmk hzL hcL hsL hyL hiL
  unfold Cfg.cells at HW1 k0 k1 k2 k3 k4
  unfold Cfg.val at HMY HRU ⊢
  dsimp only at HMY HW1 HLR HLL HZ HHP HRU k0 k1 k2 k3 k4 hab' ⊢
  simp only [List.getElem?_toArray, List.getElem?_cons_zero, List.getElem?_cons_succ] at k0 k1 k2 k3 k4
  obtain ⟨⟨_, g1⟩, ⟨_, g2⟩⟩ := hab'
  have g3 : decide (br ≤ (a : Int)) = false := by simp; exact g1
  have g4 : decide (br ≤ (b : Int)) = false := by simp; exact g2
  have g5 : decide ((a : Int) < 0) = false := by simp
  have g6 : decide ((b : Int) < 0) = false := by simp
  have HIL := hide (show (bothGo a b ls 0).length ≤ 4 by have := unhide HLL; omega)
  have HAP := hide (fun i => bothGo_append a b (ls.take i) (ls.drop i) 0)
  clear g1 g2 hisl
  go_enter Try.func20, Try.ntmps20
  go_upto_region 1 with fail
  rw [← unhide HP, ← unhide HW1]
  go_wp2_with fail
  refine (unhide HMY w1 (unhide HB1)).mono ?_
  rintro _ w2 ⟨rfl, hb2⟩
  have hz2 : Below w1.heap.size w1 w2 := hb2
  clear hb2 hz1
  go_upto_region 7 with fail
  have hzA : Below w1.heap.size w1 (w2.alloc (.cells #[.int .i64 0] 3)) := hz2.alloc hz2.size _
  obtain ⟨wa, hwa⟩ : ∃ wa, wa = w2.alloc (.cells #[.int .i64 0] 3) := ⟨_, rfl⟩
  obtain ⟨pa, hpa⟩ : ∃ pa, pa = w2.heap.size := ⟨_, rfl⟩
  have kA : Blk wa pa 3 #[.int .i64 0] := by rw [hwa, hpa]; exact Blk.new _ _ _
  have hpl : w1.heap.size ≤ pa := by rw [hpa]; exact hz2.size
  rw [← hwa] at hzA
  rw [← hwa, ← hpa]
  clear hwa hpa
  have hk8 := unhide HMK wa
  obtain ⟨w9, hw9⟩ : ∃ w9, w9 = wa.alloc (.cells (nilRow ln) 60) := ⟨_, rfl⟩
  have hb9 : Below wa.heap.size wa w9 := by rw [hw9]; exact (Below.refl _ _).alloc (Nat.le_refl _) _
  obtain ⟨g, hg⟩ : ∃ g, g = wa.heap.size := ⟨_, rfl⟩
  have k9 : Blk w9 g 60 (nilRow ln) := by rw [hw9, hg]; exact Blk.new _ _ _
  have HT9 := hide (OTb.new k9 (show w1.heap.size ≤ g by rw [hg]; exact hzA.size))
  have HA9 := hide (kA.below hb9 kA.lt)
  have hz9 : Below w1.heap.size w1 w9 := hzA.trans (hb9.mono hzA.size)
  have HPL := hide hpl
  rw [← hw9, ← hg] at hk8
  clear hw9 hb9 k9 hg kA hpl
  have HTK := hide (fun (W : World) (at0 n : Nat) (hn : n ≤ 34) (hat : at0 ≤ 2000000) (hP : Blk W pa 3 #[.int .i64 ((at0 : Nat) : Int)]) (hW : Below w1.heap.size w1 W) =>
    show Calls Try.prog 46 #[.int .i64 (n : Int), .pointer (some ⟨pa, 0, none⟩), .pointer (some ⟨p + 1, 0, none⟩)] W (TkPost w1 pa (fv (bitB bs) at0 n) (at0 + n) W) from
      (refTake_any bs bA bn bc pa (p + 1) at0 n w.heap.size W hn hat hP ((unhide HKG).below hW (unhide HKG).lt) (Nat.le_trans (unhide HB1).size (unhide HPL)) (Nat.le_trans (unhide HB1).size hW.size) (unhide HBL) hbn hbm ((unhide HBRD).below ((unhide HB1).trans (hW.mono (unhide HB1).size))) (unhide HBZ)).mono
        fun e w' ⟨h1, h2, h3⟩ => ⟨h1, h2, h3, Below.only hW h2 (fun x hx e => by have := unhide HPL; omega) hW.size⟩)
  go_upto_region 8 with fail
  clear hk8 hzA
  obtain ⟨IS, hIS⟩ : ∃ IS, IS = bothGo a b ls 0 := ⟨_, rfl⟩
  have HIS := hide hIS
  rw [← hIS] at HHP HIL
  clear hIS
  go_wp2_with fail
  go_loopw [52] (fun j W => ∃ (i c : Nat) (S : List EnR), i ≤ ln ∧ c ≤ i ∧ j = .int .i64 i ∧ Hid ((bothGo a b (ls.take i) 0).length = c) ∧ Hid (OTb W w1.heap.size g S) ∧ Hid (S.map EnR.es = rowsN bs IS ln (8 * c)) ∧ Hid (Blk W pa 3 #[.int .i64 ((34 * (8 * c) : Nat) : Int)]) ∧ Below w1.heap.size w1 W) (fun j _ => ln - (intOf j).toNat)
  case atStart => exact ⟨0, 0, _, Nat.zero_le _, Nat.zero_le _, rfl, hide rfl, HT9, hide (by simp [rowsN, EnR.nil]), HA9, hz9⟩
  case round =>
    obtain ⟨i, c, S, hi, hci, rfl, HC, HT, HSR, HP', hz⟩ := hrel
    by_cases hik : i < ln
    · obtain ⟨bl, ol, z, rfl, hbl, hzl, hcl⟩ := at_num ((unhide HLR).below ((unhide HB1).trans (hz.mono (unhide HB1).size))) hik
      have hzz := unhide HZ z (List.mem_of_getElem? hzl)
      obtain ⟨z, rfl⟩ := Int.eq_ofNat_of_zero_le hzz.1
      have hz255 : z ≤ 255 := by omega
      have hlk : (ls.take i).length = i := by rw [List.length_take, unhide HLL]; omega
      have HTK2 := hide (show bothGo a b (ls.take (i + 1)) 0 = bothGo a b (ls.take i) 0 ++ (if z.testBit a && z.testBit b then [i] else []) by
        rw [take_snoc ls i _ hzl, bothGo_snoc, Int.toNat_natCast, hlk, Nat.zero_add])
      have HI1 := hide (fun W => refRead_any z a W hz255 (by omega))
      have HI2 := hide (fun W => refRead_any z b W hz255 (by omega))
      have hik' : (i : Int) < (ln : Int) := by omega
      clear hzz hzl hlk hbl
      cases hb1 : z.testBit a
      · rw [hb1] at HI1 HTK2
        clear hb1
        rw [Bool.false_and, if_neg (by simp), List.append_nil] at HTK2
        go_wp2_with fail
        refine (unhide HI1 _).mono ?_
        rintro _ _ ⟨rfl, rfl⟩
        go_wp2_with fail
        go_roundw
        case rel => exact ⟨i + 1, c, S, by omega, by omega, by go_num, hide (by rw [unhide HTK2]; exact unhide HC), HT, HSR, HP', hz⟩
        case measure => simp [intOf]; omega
      · rw [hb1] at HI1 HTK2
        clear hb1
        cases hb2 : z.testBit b
        · rw [hb2] at HI2 HTK2
          clear hb2
          rw [Bool.and_false, if_neg (by simp), List.append_nil] at HTK2
          go_wp2_with fail
          refine (unhide HI1 _).mono ?_
          rintro _ _ ⟨rfl, rfl⟩
          go_wp2_with fail
          refine (unhide HI2 _).mono ?_
          rintro _ _ ⟨rfl, rfl⟩
          go_wp2_with fail
          go_roundw
          case rel => exact ⟨i + 1, c, S, by omega, by omega, by go_num, hide (by rw [unhide HTK2]; exact unhide HC), HT, HSR, HP', hz⟩
          case measure => simp [intOf]; omega
        · rw [hb2] at HI2 HTK2
          clear hb2
          rw [Bool.true_and, if_pos rfl] at HTK2
          have HISC := hide (show IS[c]? = some i by
            have h1 := bothGo_append a b (ls.take (i + 1)) (ls.drop (i + 1)) 0
            rw [List.take_append_drop, ← unhide HIS] at h1
            rw [h1, unhide HTK2, List.append_assoc, List.getElem?_append_right (by rw [unhide HC]; exact Nat.le_refl _), unhide HC, Nat.sub_self]
            rfl)
          have hc4 : c < 4 := by have h1 := (List.getElem?_eq_some_iff.1 (unhide HISC)).1; have := unhide HIL; omega
          go_wp2_with fail
          refine (unhide HI1 _).mono ?_
          rintro _ _ ⟨rfl, rfl⟩
          go_wp2_with fail
          refine (unhide HI2 _).mono ?_
          rintro _ _ ⟨rfl, rfl⟩
          go_wp2_with fail
          go_loopw [15] (fun x W => ∃ (k : Nat) (S : List EnR), k ≤ 8 ∧ x = .int .i64 k ∧ Hid (OTb W w1.heap.size g S) ∧ Hid (S.map EnR.es = rowsN bs IS ln (8 * c + k)) ∧ Hid (Blk W pa 3 #[.int .i64 ((34 * (8 * c + k) : Nat) : Int)]) ∧ Below w1.heap.size w1 W) (fun x _ => 8 - (intOf x).toNat)
          case atStart => exact ⟨0, S, Nat.zero_le _, rfl, HT, HSR, HP', hz⟩
          case round =>
            obtain ⟨k, S, hk, rfl, HT, HSR, HP', hz⟩ := hrel
            by_cases hk8 : k < 8
            · obtain ⟨L, G, V, T, H, e1, e2, e3, e4, e5, hIsN, hDec, hV, hT, hH, hL, hG⟩ := slot_parts bs (8 * c + k)
              obtain ⟨j, hj⟩ : ∃ j, j = 8 * c + k := ⟨_, rfl⟩
              rw [← hj] at e1 e2 e3 e4 e5 hIsN hDec HSR HP'
              have hj32 : j < 32 := by omega
              have HT1 := hide (fun W (hP : Blk W pa 3 #[.int .i64 ((34 * j : Nat) : Int)]) hW => unhide HTK W (34 * j) 1 (by omega) (by omega) hP hW)
              have HT2 := hide (fun W (hP : Blk W pa 3 #[.int .i64 ((34 * j + 1 : Nat) : Int)]) hW => unhide HTK W (34 * j + 1) 1 (by omega) (by omega) hP hW)
              have HT3 := hide (fun W (hP : Blk W pa 3 #[.int .i64 ((34 * j + 1 + 1 : Nat) : Int)]) hW => unhide HTK W (34 * j + 1 + 1) 8 (by omega) (by omega) hP hW)
              have HT4 := hide (fun W (hP : Blk W pa 3 #[.int .i64 ((34 * j + 1 + 1 + 8 : Nat) : Int)]) hW => unhide HTK W (34 * j + 1 + 1 + 8) 21 (by omega) (by omega) hP hW)
              have HT5 := hide (fun W (hP : Blk W pa 3 #[.int .i64 ((34 * j + 1 + 1 + 8 + 21 : Nat) : Int)]) hW => unhide HTK W (34 * j + 1 + 1 + 8 + 21) 3 (by omega) (by omega) hP hW)
              rw [e1] at HT1
              rw [e2] at HT2
              rw [e3] at HT3
              rw [e4] at HT4
              rw [e5] at HT5
              have HJ := hide hj
              have HISN := hide hIsN
              have HDEC := hide hDec
              clear e1 e2 e3 e4 e5 hj hIsN hDec
              go_wp2_with fail
              refine (unhide HT1 _ (unhide HP') hz).mono ?_
              rintro _ wa ⟨rfl, ho, kp, hza⟩
              have HTaa := hide ((unhide HT).take (unhide HP') ho)
              have HKa := hide kp
              clear ho kp
              go_wp2_with fail
              refine (unhide HT2 _ (unhide HKa) hza).mono ?_
              rintro _ wb ⟨rfl, ho, kp, hzb⟩
              have HTbb := hide ((unhide HTaa).take (unhide HKa) ho)
              have HKb := hide kp
              clear ho kp
              go_wp2_with fail
              refine (unhide HT3 _ (unhide HKb) hzb).mono ?_
              rintro _ wc ⟨rfl, ho, kp, hzc⟩
              have HTcc := hide ((unhide HTbb).take (unhide HKb) ho)
              have HKc := hide kp
              clear ho kp
              go_wp2_with fail
              refine (unhide HT4 _ (unhide HKc) hzc).mono ?_
              rintro _ wd ⟨rfl, ho, kp, hzd⟩
              have HTdd := hide ((unhide HTcc).take (unhide HKc) ho)
              have HKd := hide kp
              clear ho kp
              go_wp2_with fail
              refine (unhide HT5 _ (unhide HKd) hzd).mono ?_
              rintro _ we ⟨rfl, ho, kp, hze⟩
              have HTee := hide ((unhide HTdd).take (unhide HKd) ho)
              have HKe := hide kp
              clear ho kp
              clear HT1 HT2 HT3 HT4 HT5 HTaa HTbb HTcc HTdd HKa HKb HKc HKd hza hzb hzc hzd
              have HKE := hide (show Blk we pa 3 #[.int .i64 ((34 * (8 * c + (k + 1)) : Nat) : Int)] by
                have h := unhide HKe
                rw [show 34 * j + 1 + 1 + 8 + 21 + 3 = 34 * (8 * c + (k + 1)) by have := unhide HJ; omega] at h
                exact h)
              have HRN := hide (show rowsN bs IS ln (8 * c + (k + 1)) = if isN (slN bs j) then pushH (rowsN bs IS ln j) i (decE k (slN bs j)) else rowsN bs IS ln j by
                rw [← Nat.add_assoc, ← unhide HJ, rowsN, List.getD_eq_getElem?_getD, show j / 8 = c by have := unhide HJ; omega, unhide HISC, show j % 8 = k by have := unhide HJ; omega]
                rfl)
              clear HKe
              by_cases hL1 : L = 1
              · have hE := unhide HDEC hL1 k
                rw [show decide (G = 1) = ((G : Int) == 1) by rw [Bool.eq_iff_iff]; simp; omega] at hE
                have HRN2 := hide (show rowsN bs IS ln (8 * c + (k + 1)) = pushH (rowsN bs IS ln j) i ⟨(k : Int), (V : Int), (T : Int), (H : Int), ((G : Int) == 1)⟩ by rw [unhide HRN, if_pos (by rw [unhide HISN]; simpa using hL1), hE])
                have hsi : S[i]? = some (S[i]'(by have h := congrArg List.length (unhide HSR); rw [List.length_map, rowsN_len] at h; omega)) := List.getElem?_eq_getElem _
                generalize S[i]'(by have h := congrArg List.length (unhide HSR); rw [List.length_map, rowsN_len] at h; omega) = r at hsi
                have hgd : (rowsN bs IS ln j).getD i [] = r.es := by rw [← unhide HSR, List.getD_eq_getElem?_getD, List.getElem?_map, hsi]; rfl
                have hrl : r.es.length ≤ 8 := by
                  have hnd : IS.Nodup := by rw [unhide HIS]; exact bothGo_nodup _ _ _ _
                  have hlt : ∀ i ∈ IS, i < ln := fun i hi => by
                    rw [unhide HIS] at hi
                    have := bothGo_mem _ _ _ _ i hi
                    have := unhide HLL
                    omega
                  rw [← hgd, (rowsN_get bs IS ln IS.length rfl hnd hlt j (by have := (List.getElem?_eq_some_iff.1 (unhide HISC)).1; have := unhide HJ; omega)).1 c i (unhide HISC)]
                  exact Nat.le_trans (decPart_len _ _ _) (Nat.min_le_left _ _)
                have hL0 : ((L : Int) == 1) = true := by simp; omega
                obtain ⟨res, rA, rc⟩ := r
                dsimp only at hgd hrl
                have g6 : we.cell? ⟨g, i, none⟩ = some (.slice rA res.length rc) := (unhide HTee).cell hsi
                have hilt : (i : Int) < (ln : Int) := by omega
                have HHI := hide hsi
                have HGD := hide hgd
                have HRL := hide hrl
                clear hsi hgd hrl hE hL1
                have HROW := hide ((unhide HTee).rows _ (List.mem_of_getElem? (unhide HHI)))
                have hown : we.ownsRow w1.heap.size 65 5 (.slice rA res.length rc) res.length (res.flatMap entCells) := unhide HROW
                have HOWN := hide hown
                have hmq : (res.length + 1) * 40 ≤ 140737488355328 := by have := unhide HRL; omega
                have HMQ := hide hmq
                have hsW' := hze.size
                clear hown hmq
                go_wp2_with (first
                  | (at_builtin; (refine wpList_append_new we rfl (.tmp 88) (.tmp 96) _ rfl w1.heap.size 65 iE _ 5 40 Try.underlying60 hiE hzE hsE hyE rfl (by omega) (by omega) _ _ _ (unhide HOWN) rfl _ 1 _ rfl rfl rfl (by simp [Value.oneCell']) (unhide HMQ) hsW' ?_); intro g7 cap7 w7 hg7 hown7 hbel7 hgr7 hat7
                     obtain ⟨u0, u1, ht8, hpp⟩ := (unhide HTee).grow0 (E := ⟨k, V, T, H, ((G : Int) == 1)⟩) (unhide HHI) hgr7 hown7 hat7
                     have hgl := (unhide HTee).low
                     have HT8 := hide ht8
                     have HP8 := hide (hpp pa _ _ (unhide HKE) (by decide) (by decide) (.slice (some ⟨g7, 0, none⟩) (res.length + 1) cap7))
                     have HZ8 := hide ((hbel7 w1.heap.size w1 (Nat.le_refl _) hze).setCell (p := ⟨g, i, none⟩) hgl (.slice (some ⟨g7, 0, none⟩) (res.length + 1) cap7))
                     clear hg7 hown7 hbel7 hgr7 hat7 hpp ht8 hgl))
                go_roundw
                case rel => exact ⟨k + 1, _, by omega, by go_num, HT8, hide (by rw [unhide HRN2, pushH, unhide HGD, List.map_set, unhide HSR]), HP8, unhide HZ8⟩
                case measure => simp [intOf]; omega
              · have hL0 : ((L : Int) == 1) = false := by simp; omega
                have HRN2 := hide (show rowsN bs IS ln (8 * c + (k + 1)) = rowsN bs IS ln j by rw [unhide HRN, if_neg (by rw [unhide HISN]; simpa using hL1)])
                clear hL1
                go_wp2_with fail
                go_roundw
                case rel => exact ⟨k + 1, S, by omega, by go_num, HTee, hide (by rw [unhide HRN2]; exact unhide HSR), HKE, hze⟩
                case measure => simp [intOf]; omega
            · obtain rfl : k = 8 := by omega
              go_wp2_with fail
              go_roundw
              case rel => exact ⟨i + 1, c + 1, S, by omega, by omega, by go_num, hide (by rw [unhide HTK2, List.length_append, unhide HC]; rfl), HT, HSR, HP', hz⟩
              case measure => simp [intOf]; omega
    · obtain rfl : i = ln := by omega
      have hcl : c = IS.length := by
        have h := unhide HC
        rw [List.take_of_length_le (by rw [unhide HLL]; exact Nat.le_refl _), ← unhide HIS] at h
        exact h.symm
      have hSl : S.length = i := by have h := congrArg List.length (unhide HSR); rw [List.length_map, rowsN_len] at h; exact h
      obtain ⟨t, ht⟩ : ∃ t : TabR, t = ⟨S, some ⟨g, 0, none⟩, i⟩ := ⟨_, rfl⟩
      have hte : t.es = rowsN bs IS i (8 * IS.length) := by rw [ht, ← hcl]; exact unhide HSR
      have htv : t.val = .slice (some ⟨g, 0, none⟩) i i := by rw [ht]; unfold TabR.val; dsimp only; rw [hSl]
      have htr : TabRd wr wr.heap.size t := by
        rw [ht]
        refine ⟨?_, fun r hr => Reads.of_own ((unhide HT).rows r hr)⟩
        have h := reads_of_blk (unhide HT).blk (unhide HT).blk.lt
        simpa using h
      have hto : TabOk wr wr.heap.size t := ⟨htr, by rw [ht]; dsimp only; rw [hSl]; unfold maxLen; omega, fun r hr => by
        rw [ht] at hr
        have h := own_caps ((unhide HT).rows r hr)
        omega⟩
      have hwz : Below w.heap.size w wr := (unhide HB1).trans (hz.mono (unhide HB1).size)
      have HRM := hide (unhide HRU wr t hwz hto)
      rw [hte] at HRM
      have HTR := hide htr
      have HTE := hide hte
      have HTV := hide htv
      rw [htv] at HRM
      unfold RumPost at HRM
      have HWZ := hide hwz
      clear hcl hSl ht hte htv htr hto hwz HRU HT HSR
      have HU8 := hide (rumourP_u8 ⟨br, ⟨lA, i, lc, ls⟩, tk, ⟨mA, mn, mc, ms⟩, cap⟩ a b (rowsN bs IS i (8 * IS.length)))
      generalize rumourP ⟨br, ⟨lA, i, lc, ls⟩, tk, ⟨mA, mn, mc, ms⟩, cap⟩ a b (rowsN bs IS i (8 * IS.length)) = R at *
      obtain ⟨rb, rc⟩ := R
      dsimp only at HRM HHP HU8
      go_wp2_with fail
      refine (unhide HRM).mono ?_
      rintro _ wy ⟨vy, rfl, hoy, hby⟩
      obtain ⟨Ay, cy, rfl, _⟩ := own_slice hoy
      have hzy := hz.trans (hby.mono hz.size)
      have HBY := hide ((unhide HWZ).trans (hby.mono (unhide HWZ).size))
      have HTY := hide ((unhide HTR).below hby)
      have HTYS := hide hby.size
      have HSB := hide (Reads.of_own hoy)
      clear hoy hby
      have HBA := hide ((unhide HBRD).below (unhide HBY) |>.more (unhide HBY).size)
      by_cases hr0 : rc = 0
      · have HSA := hide (refSame_any Ay bA rb.length bn cy bc rb bs wy.heap.size wy rfl (unhide HBL) (unhide HU8) (unhide HBZ) (unhide HSB) (unhide HBA))
        by_cases hrb : rb = bs
        · have HFI := hide (show heardP ⟨br, ⟨lA, i, lc, ls⟩, tk, ⟨mA, mn, mc, ms⟩, cap⟩ a b bs = (rowsN bs IS i (8 * IS.length), 0) by rw [unhide HHP, if_pos ⟨hr0, hrb⟩])
          have hss : sameL rb bs = true := by unfold sameL; simpa using hrb
          rw [hss] at HSA
          clear hss hrb HHP
          subst hr0
          go_wp2_with fail
          refine (unhide HSA).mono ?_
          rintro _ _ ⟨rfl, rfl⟩
          go_wp2_with fail
          go_ret2
          unfold HeaPost
          rw [unhide HFI]
          exact ⟨t, by rw [unhide HTV]; rfl, unhide HTE, (unhide HTY).more (unhide HTYS), unhide HBY⟩
        · have HFI := hide (show heardP ⟨br, ⟨lA, i, lc, ls⟩, tk, ⟨mA, mn, mc, ms⟩, cap⟩ a b bs = ([], 4) by rw [unhide HHP, if_neg (fun h => hrb h.2)])
          have hss : sameL rb bs = false := by unfold sameL; simpa using hrb
          rw [hss] at HSA
          clear hss hrb HHP
          subst hr0
          go_wp2_with fail
          refine (unhide HSA).mono ?_
          rintro _ _ ⟨rfl, rfl⟩
          go_wp2_with fail
          go_ret2
          exact heaPost_nil (unhide HFI) (unhide HBY)
      · have HFI := hide (show heardP ⟨br, ⟨lA, i, lc, ls⟩, tk, ⟨mA, mn, mc, ms⟩, cap⟩ a b bs = ([], 4) by rw [unhide HHP, if_neg (fun h => hr0 h.1)])
        have hr1 : (rc != 0) = true := by simpa using hr0
        clear hr0 HHP
        go_wp2_with fail
        go_ret2
        exact heaPost_nil (unhide HFI) (unhide HBY)
end Go.Proofs.Ytbkciniikahjhaa
