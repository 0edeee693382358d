/- The reference's FrameRumour, where it tells. Conditions: none beyond what each theorem states. -/
import Derived.Test.YtbkciniikahjhaaRumH
namespace Go.Proofs.Ytbkciniikahjhaa
open Go.RowKit
set_option linter.unusedVariables false

theorem allBits_rum_len (rows : List (List Ent)) (is : List Nat) : (allBits (rumFs rows is)).length = 272 * is.length := by
  rw [allBits_len, rumFs_widths]
  simp
  omega
theorem fieldBits_get (f : Int × Int) (z : Nat) (hz : z < f.1.toNat) : (fieldBits f)[z]? = some (f.2.toNat / 2 ^ (f.1.toNat - 1 - z) % 2) := by simp [fieldBits, hz]
theorem and1_val (v kk : Nat) (hv : v < 4611686018427387904) : bits .and .i64 ((v : Int) / 2 ^ kk) 1 = ((v / 2 ^ kk % 2 : Nat) : Int) := by
  have e : ((v:Int) / 2 ^ kk) = ((v / 2 ^ kk : Nat) : Int) := by simp
  have hd : v / 2 ^ kk ≤ v := Nat.div_le_self _ _
  rw [e, show (1:Int) = ((1:Nat):Int) from rfl, i64_and_nat _ _ (by omega) (by omega), Nat.and_one_is_mod]
theorem bitsVal_far (bs : List Nat) (i k : Nat) (h : bs.length ≤ i) : bitsVal bs i k = 0 := by
  induction k with
  | zero => rfl
  | succ k ih => rw [bitsVal, ih, List.getD_eq_getElem?_getD, List.getElem?_eq_none (by omega)]; rfl
theorem bytesOf_grow (bs : List Nat) (m : Nat) (h : bs.length = 8 * m) : bytesOf bs (m + 1) = bytesOf bs m ++ [0] := by
  unfold bytesOf
  rw [List.range_succ, List.map_append]
  congr 1
  simp only [List.map_cons, List.map_nil]
  unfold byteOf
  rw [bitsVal_far bs _ 8 (by omega)]
  rfl
theorem bytesOf_get (bs : List Nat) (n i : Nat) (h : i < n) : (bytesOf bs n)[i]? = some ((byteOf bs i : Nat) : Int) := by simp [bytesOf, h]
theorem own_cur1' {w : World} {base n : Nat} {e : TypeId} {v : Value} {xs : List Value} (h : w.ownsRow base e 1 v n xs) (hn : 0 < n) : ∃ g cap cs, v = .slice (some ⟨g, 0, none⟩) n cap ∧ base ≤ g ∧ n ≤ cap ∧ Blk w g e cs ∧ ∀ (j : Nat) (u : Value), xs[j]? = some u → cs[j]? = some u := by
  rcases h.2 with ⟨h1, h2⟩ | ⟨g, cap, cur, h1, hb, hh, hnc, hcm, hs, ht⟩
  · omega
  · refine ⟨g, cap, cur, h1, hb, hnc, hh, fun j u hj => ?_⟩
    rw [← ht, List.getElem?_take] at hj
    split at hj
    · simpa using hj
    · cases hj
theorem own_curU {w : World} {base n g c : Nat} {e : TypeId} {xs : List Value} (h : w.ownsRow base e 1 (.slice (some ⟨g, 0, none⟩) (n + 1) c) (n + 1) xs) : ∃ cs, Blk w g e cs ∧ True := by
  obtain ⟨g', cap, cs, h1, _, _, h2, _⟩ := own_cur1' h (by omega)
  injection h1 with h1
  injection h1 with h1
  injection h1 with h1
  subst h1
  exact ⟨cs, h2, trivial⟩
theorem slotFs_ok {l : List Ent} (h : ∀ e ∈ l, SlotOk e) (x : Int) : (slotFs l x).length ≤ 5 ∧ ∀ f ∈ slotFs l x, (1 ≤ f.1 ∧ f.1 ≤ 34) ∧ (0 ≤ f.2 ∧ f.2 ≤ 1048576) := by
  unfold slotFs
  cases hk : keyE l x with
  | none => simp
  | some e =>
    obtain ⟨h1, h2, h3⟩ := h e (List.mem_of_find?_eq_some hk)
    have hg : goneN e ≤ 1 := by unfold goneN; split <;> omega
    refine ⟨by simp, fun f hf => ?_⟩
    simp only [List.mem_cons, List.not_mem_nil, or_false] at hf
    rcases hf with rfl | rfl | rfl | rfl | rfl
    all_goals dsimp only; omega
theorem slotFs_bits_len {l : List Ent} (h : ∀ e ∈ l, SlotOk e) (x : Nat) : (allBits (slotFs l x)).length = 34 := by
  rw [← slotV_bits h, fieldBits_len]
  rfl
theorem natCells_append (x y : List Nat) : natCells (x ++ y) = natCells x ++ natCells y := by unfold natCells; rw [List.map_append]
set_option maxRecDepth 100000 in
set_option maxHeartbeats 8000000 in
theorem refRumour_good (c : Cfg) (a b : Nat) (t : TabR) (B : Nat) (w : World) (hc : c.ok w B) (ht : TabOk w B t) (hB : B ≤ w.heap.size) (hcf : configP c = true) (hab : brOk c a = true ∧ brOk c b = true) (hlen : t.es.length = c.la.zs.length) :
    Calls Try.prog 18 #[c.val, .int .i64 a, .int .i64 b, t.val] w (RumPost (rumourP c a b t.es) w) := by
  obtain ⟨b1, b2, b3, b4⟩ := config_br hcf
  have ha8 : a ≤ 8 := by have := hab.1; unfold brOk at this; simp at this; omega
  have hb8 : b ≤ 8 := by have := hab.2; unfold brOk at this; simp at this; omega
  have hab' := hab
  unfold brOk at hab'
  simp only [Bool.and_eq_true, decide_eq_true_eq] at hab'
  have HRP := hide (show rumourP c a b t.es = if t.es.any (fun l => !mayP l) = true then ([], 4) else if (bothGo a b c.la.zs 0).any (fun i => badRow (t.es.getD i [])) = true then ([], 12) else (bytesOf (allBits (rumFs t.es (bothGo a b c.la.zs 0))) (34 * (bothGo a b c.la.zs 0).length), 0) by
    unfold rumourP
    rw [if_neg (by rw [hcf]; simp), if_neg (by rw [hab.1, hab.2]; simp), if_neg (by rw [hlen]; simp), Int.toNat_natCast, Int.toNat_natCast])
  have HMY := hide (fun W (hW : Below w.heap.size w W) => configMay_any c B W (hc.below (hW.mono hB)) (Nat.le_trans hB hW.size))
  rw [hcf] at HMY
  have hll := hc.1.1
  have hrl : t.rs.length = c.la.n := by rw [← hll, ← hlen]; unfold TabR.es; rw [List.length_map]
  have HRT := hide (ht.more hB)
  have HLR := hide (hc.1.2.2.2.more hB)
  have HLL := hide hll
  have HZ := hide b4
  have hln4 : c.la.n ≤ 4 := by omega
  obtain ⟨w1, hw1⟩ : ∃ w1, w1 = w.alloc (.cells c.cells.toArray 24) := ⟨_, rfl⟩
  have hb1 : Below w.heap.size w w1 := by rw [hw1]; exact (Below.refl _ _).alloc (Nat.le_refl _) _
  obtain ⟨p, hp⟩ : ∃ p, p = w.heap.size := ⟨_, rfl⟩
  have kb : Blk w1 p 24 c.cells.toArray := by rw [hw1, hp]; exact Blk.new w _ _
  have HB1 := hide hb1
  have HW1 := hide hw1
  have HP := hide hp
  have k0 := fun (W : World) (hz : Below w1.heap.size w1 W) => (kb.below hz kb.lt).cell 0
  have k1 := fun (W : World) (hz : Below w1.heap.size w1 W) => (kb.below hz kb.lt).cell 1
  have k2 := fun (W : World) (hz : Below w1.heap.size w1 W) => (kb.below hz kb.lt).cell 2
  have k3 := fun (W : World) (hz : Below w1.heap.size w1 W) => (kb.below hz kb.lt).cell 3
  have k4 := fun (W : World) (hz : Below w1.heap.size w1 W) => (kb.below hz kb.lt).cell 4
  have hz1 : Below w1.heap.size w1 w1 := Below.refl _ _
  obtain ⟨iI, hiI, hzI, hsI, hyI⟩ : ∃ i, Try.prog.info? 3 = some i ∧ i.zero = some (.int .i64 0) ∧ i.size = 1 ∧ i.bytes = 8 := info_of (by kernel_rfl)
  obtain ⟨iU, hiU, hzU, hsU, hyU⟩ : ∃ i, Try.prog.info? 5 = some i ∧ i.zero = some (.int .u8 0) ∧ i.size = 1 ∧ i.bytes = 1 := info_of (by kernel_rfl)
  clear hb1 kb hp hw1 hc ht hcf hlen b1 b2 b3 b4 hab hll
  obtain ⟨rs, tA, tc⟩ := t
  obtain ⟨br, ⟨lA, ln, lc, ls⟩, tk, ⟨mA, mn, mc, ms⟩, cap⟩ := c
  unfold Cfg.cells at HW1 k0 k1 k2 k3 k4
  unfold Cfg.val at HMY ⊢
  unfold TabR.val
  dsimp only at HMY HW1 HLR HLL HZ k0 k1 k2 k3 k4 hrl hln4 hab' ⊢
  simp only [List.getElem?_toArray, List.getElem?_cons_zero, List.getElem?_cons_succ] at k0 k1 k2 k3 k4
  obtain ⟨⟨_, g1⟩, ⟨_, g2⟩⟩ := hab'
  have g3 : decide (br ≤ (a : Int)) = false := by simp; exact g1
  have g4 : decide (br ≤ (b : Int)) = false := by simp; exact g2
  have g5 : decide ((a : Int) < 0) = false := by simp
  have g6 : decide ((b : Int) < 0) = false := by simp
  rw [hrl]
  have HRL := hide hrl
  clear hrl g1 g2
  go_enter Try.func18, Try.ntmps18
  go_upto_region 1 with fail
  rw [← unhide HP, ← unhide HW1]
  go_wp2_with fail
  refine (unhide HMY w1 (unhide HB1)).mono ?_
  rintro _ w2 ⟨rfl, hb2⟩
  have hz2 : Below w1.heap.size w1 w2 := hb2
  have hy2 : Below w.heap.size w w2 := (unhide HB1).trans (hb2.mono (unhide HB1).size)
  clear hb2
  go_wp2_with fail
  go_loopw [53] (fun j W => ∃ (k : Nat), k ≤ ln ∧ j = .int .i64 k ∧ Hid ((rs.take k).all (fun r => mayP r.es) = true) ∧ Below w1.heap.size w1 W ∧ Below w.heap.size w W) (fun j _ => ln - (intOf j).toNat)
  case atStart => exact ⟨0, Nat.zero_le _, rfl, hide rfl, hz2, hy2⟩
  case round =>
    obtain ⟨k, hk, rfl, HMA, hx, hz⟩ := hrel
    by_cases hlt : k < ln
    · obtain ⟨bt, ot, r, hbt, _, hr, hcr⟩ := val_at EnR.val ((unhide HRT).below hz).rd.1 (by rw [unhide HRL]; exact hlt)
      dsimp only at hbt hr hcr
      subst hbt
      have hrr := ((unhide HRT).rd.2 r (List.mem_of_getElem? hr))
      have hrm := (unhide HRT).each r (List.mem_of_getElem? hr)
      have HEM := hide (fun (W : World) (hW : Below w.heap.size w W) => entriesMay_any r.A r.es.length r.c r.es w.heap.size W rfl hrm (hrr.below hW) hW.size)
      have HTK := hide (take_snoc rs k r hr)
      have HBM := hide (fun (h : mayP r.es = false) => show (TabR.es ⟨rs, some ⟨bt, ot, none⟩, tc⟩).any (fun l => !mayP l) = true by
        unfold TabR.es
        rw [List.any_map, List.any_eq_true]
        exact ⟨r, List.mem_of_getElem? hr, by simp [h]⟩)
      unfold EnR.val at hcr
      have hkl : (k : Int) < (ln : Int) := by omega
      obtain ⟨es, rA, rc⟩ := r
      dsimp only at hcr HEM HBM
      generalize es.length = n at *
      clear hr hrr hrm
      cases hm : mayP es
      · rw [hm] at HEM
        have HR4 := hide (unhide HBM hm)
        clear hm
        go_wp2_with fail
        refine (unhide HEM _ hz).mono ?_
        rintro _ w3 ⟨rfl, hb3⟩
        have HB3 := hide (hz.trans (hb3.mono hz.size))
        clear hb3
        go_wp2_with fail
        go_ret2
        rw [unhide HRP, if_pos (unhide HR4)]
        exact ⟨_, rfl, World.ownsRow_nil _ _ _ _, unhide HB3⟩
      · rw [hm] at HEM
        have HMA2 := hide (show (rs.take (k + 1)).all (fun r => mayP r.es) = true by
          rw [unhide HTK, List.all_append, unhide HMA]
          simp [hm])
        clear hm
        go_wp2_with fail
        refine (unhide HEM _ hz).mono ?_
        rintro _ w3 ⟨rfl, hb3⟩
        have hx3 := hx.trans (hb3.mono hx.size)
        have HB3 := hide (hz.trans (hb3.mono hz.size))
        clear hb3
        go_wp2_with fail
        go_roundw
        case rel => exact ⟨k + 1, by omega, by go_num, HMA2, hx3, unhide HB3⟩
        case measure => simp [intOf]; omega
    · obtain rfl : k = ln := by omega
      have hma := unhide HMA
      rw [List.take_of_length_le (by rw [unhide HRL]; exact Nat.le_refl _)] at hma
      have HMAY := hide (fun r (hr : r ∈ rs) => show mayP r.es = true from List.all_eq_true.1 hma r hr)
      have hnm : (TabR.es ⟨rs, tA, tc⟩).any (fun l => !mayP l) = false := by
        unfold TabR.es
        rw [List.any_map, List.any_eq_false]
        intro r hr
        simp [List.all_eq_true.1 hma r hr]
      have HRP2 := hide (show rumourP ⟨br, ⟨lA, k, lc, ls⟩, tk, ⟨mA, mn, mc, ms⟩, cap⟩ a b (TabR.es ⟨rs, tA, tc⟩) = if (bothGo a b ls 0).any (fun i => badRow ((rs.map EnR.es).getD i [])) = true then ([], 12) else (bytesOf (allBits (rumFs (rs.map EnR.es) (bothGo a b ls 0))) (34 * (bothGo a b ls 0).length), 0) from by have h := unhide HRP; rw [if_neg (by rw [hnm]; simp)] at h; exact h)
      clear hma hnm HMA HRP
      go_wp2_with fail
      go_loopw [12, 64] (fun o j W => ∃ (i L : Nat), i ≤ k ∧ j = .int .i64 i ∧ L ≤ 272 * i ∧ Hid ((allBits (rumFs (rs.map EnR.es) (bothGo a b (ls.take i) 0))).length = L) ∧ Hid (W.ownsRow w1.heap.size 3 1 o L (natCells (allBits (rumFs (rs.map EnR.es) (bothGo a b (ls.take i) 0))))) ∧ Hid ((bothGo a b (ls.take i) 0).any (fun i => badRow ((rs.map EnR.es).getD i [])) = false) ∧ Below w1.heap.size w1 W ∧ Below w.heap.size w W) (fun _ j _ => k - (intOf j).toNat)
      case atStart => exact ⟨0, 0, Nat.zero_le _, rfl, by omega, hide rfl, World.ownsRow_nil _ _ _ _, hide rfl, hx, hz⟩
      case round =>
        obtain ⟨i, L, hi, rfl, hL, HDL, HD, HNB, hx2, hz2'⟩ := hrel
        by_cases hik : i < k
        · obtain ⟨bl, ol, z, rfl, hbl, hzl, hcl⟩ := at_num ((unhide HLR).below hz2') hik
          have hzz := unhide HZ z (List.mem_of_getElem? hzl)
          obtain ⟨z, rfl⟩ := Int.eq_ofNat_of_zero_le hzz.1
          have hz255 : z ≤ 255 := by omega
          have hlk : (ls.take i).length = i := by rw [List.length_take, unhide HLL]; omega
          have HTK := hide (show bothGo a b (ls.take (i + 1)) 0 = bothGo a b (ls.take i) 0 ++ (if z.testBit a && z.testBit b then [i] else []) by
            rw [take_snoc ls i _ hzl, bothGo_snoc, Int.toNat_natCast, hlk, Nat.zero_add])
          have HI1 := hide (fun W => refRead_any z a W hz255 (by omega))
          have HI2 := hide (fun W => refRead_any z b W hz255 (by omega))
          have hik' : (i : Int) < (k : Int) := by omega
          clear hzz hzl hlk hbl
          cases hb1 : z.testBit a
          · rw [hb1] at HI1 HTK
            clear hb1
            rw [Bool.false_and, if_neg (by simp), List.append_nil] at HTK
            go_wp2_with fail
            refine (unhide HI1 _).mono ?_
            rintro _ _ ⟨rfl, rfl⟩
            go_wp2_with fail
            go_roundw
            case rel => exact ⟨i + 1, L, by omega, by go_num, by omega, hide (by rw [unhide HTK]; exact unhide HDL), hide (by rw [unhide HTK]; exact unhide HD), hide (by rw [unhide HTK]; exact unhide HNB), hx2, hz2'⟩
            case measure => simp [intOf]; omega
          · rw [hb1] at HI1 HTK
            clear hb1
            cases hb2 : z.testBit b
            · rw [hb2] at HI2 HTK
              clear hb2
              rw [Bool.and_false, if_neg (by simp), List.append_nil] at HTK
              go_wp2_with fail
              refine (unhide HI1 _).mono ?_
              rintro _ _ ⟨rfl, rfl⟩
              go_wp2_with fail
              refine (unhide HI2 _).mono ?_
              rintro _ _ ⟨rfl, rfl⟩
              go_wp2_with fail
              go_roundw
              case rel => exact ⟨i + 1, L, by omega, by go_num, by omega, hide (by rw [unhide HTK]; exact unhide HDL), hide (by rw [unhide HTK]; exact unhide HD), hide (by rw [unhide HTK]; exact unhide HNB), hx2, hz2'⟩
              case measure => simp [intOf]; omega
            · rw [hb2] at HI2 HTK
              clear hb2
              rw [Bool.true_and, if_pos rfl] at HTK
              obtain ⟨bt, ot, r, hbt, hbtl, hr, hcr⟩ := val_at EnR.val ((unhide HRT).below hz2').rd.1 (by rw [unhide HRL]; exact hik)
              dsimp only at hbt hr hcr
              subst hbt
              have hrr := ((unhide HRT).rd.2 r (List.mem_of_getElem? hr))
              have hrm := (unhide HRT).each r (List.mem_of_getElem? hr)
              have hmr := unhide HMAY r (List.mem_of_getElem? hr)
              have hgd : (rs.map EnR.es).getD i [] = r.es := by rw [List.getD_eq_getElem?_getD, List.getElem?_map, hr]; rfl
              have HSN := hide (rumFs_snoc (rs.map EnR.es) (bothGo a b (ls.take i) 0) i)
              rw [hgd] at HSN
              have HAN := hide (show (bothGo a b (ls.take (i + 1)) 0).any (fun i => badRow ((rs.map EnR.es).getD i [])) = badRow r.es by
                rw [unhide HTK, List.any_append, unhide HNB]
                simp only [List.any_cons, List.any_nil, Bool.or_false, Bool.false_or]
                rw [hgd])
              have HFULL := hide (show badRow r.es = true → (bothGo a b ls 0).any (fun i => badRow ((rs.map EnR.es).getD i [])) = true from fun h => by
                rw [List.any_eq_true]
                have hmem : i ∈ bothGo a b ls 0 := by
                  have h1 := bothGo_append a b (ls.take (i + 1)) (ls.drop (i + 1)) 0
                  rw [List.take_append_drop] at h1
                  rw [h1, unhide HTK]
                  simp
                exact ⟨i, hmem, by rw [hgd]; exact h⟩)
              obtain ⟨hrs, hr8, hre⟩ := may_row hmr
              obtain ⟨es, rA, rc⟩ := r
              unfold EnR.val at hcr
              dsimp only at hcr hmr hrr hrm hrs hr8 hre HSN HAN HFULL
              have HSF := hide (fun (W : World) (hW : Below w.heap.size w W) (x : Nat) => slotFields_any rA es.length rc es x w.heap.size W rfl hrm (hrr.below hW) hW.size)
              obtain ⟨n, hn⟩ : ∃ n, n = es.length := ⟨_, rfl⟩
              rw [← hn] at hcr hr8 hrr hrm HSF
              have HN := hide hn.symm
              have HRR := hide hrr
              have HRE := hide hre
              have HMR := hide hmr
              have g7 : ∀ W, Below w.heap.size w W → W.cell? ⟨bt, ot + i, none⟩ = some (.slice rA n rc) := fun W hW => (hW.cell (p := ⟨bt, ot + i, none⟩) hbtl).trans ((hz2'.cell (p := ⟨bt, ot + i, none⟩) hbtl).symm.trans hcr)
              clear hr hrr hrm hmr hgd hrs hre hn hcr
              go_wp2_with fail
              refine (unhide HI1 _).mono ?_
              rintro _ _ ⟨rfl, rfl⟩
              go_wp2_with fail
              refine (unhide HI2 _).mono ?_
              rintro _ _ ⟨rfl, rfl⟩
              go_wp2_with fail
              rename World => W0
              go_loopw [84] (fun j W => ∃ (m : Nat), m ≤ n ∧ j = .int .i64 m ∧ Hid ((es.take m).any (fun e => decide (8 ≤ e.key) || decide (255 < e.value)) = false) ∧ Hid (Below W0.heap.size W0 W) ∧ Below w1.heap.size w1 W ∧ Below w.heap.size w W) (fun j _ => n - (intOf j).toNat)
              case atStart => exact ⟨0, Nat.zero_le _, rfl, hide rfl, hide (Below.refl _ _), hx2, hz2'⟩
              case round =>
                obtain ⟨m, hm, rfl, HNM, HBW, hx3, hz3⟩ := hrel
                by_cases hmn : m < n
                · obtain ⟨be, oe, e, rfl, _, he, hce⟩ := at_row entCells_len (by omega) ((unhide HRR).below hz3) hmn (unhide HN)
                  have z0 : wr.cell? ⟨be, oe + m * 5, none⟩ = some (.int .i64 e.key) := hce 0 _ rfl
                  have z1 : wr.cell? ⟨be, oe + m * 5 + 1, none⟩ = some (.int .i64 e.value) := hce 1 _ rfl
                  have z2 : wr.cell? ⟨be, oe + m * 5 + 2, none⟩ = some (.int .i64 e.time) := hce 2 _ rfl
                  have z3 : wr.cell? ⟨be, oe + m * 5 + 3, none⟩ = some (.int .i64 e.who) := hce 3 _ rfl
                  have z4 : wr.cell? ⟨be, oe + m * 5 + 4, none⟩ = some (.bool e.gone) := hce 4 _ rfl
                  have HTM := hide (take_snoc es m e he)
                  have HBE := hide (fun (h : (decide (8 ≤ e.key) || decide (255 < e.value)) = true) => show badRow es = true by
                    unfold badRow
                    rw [List.any_eq_true]
                    exact ⟨e, List.mem_of_getElem? he, h⟩)
                  have hmn' : (m : Int) < (n : Int) := by omega
                  have HZA := hide (hz3.alloc hz3.size (.cells #[.int .i64 e.key, .int .i64 e.value, .int .i64 e.time, .int .i64 e.who, .bool e.gone] 65))
                  have HXA := hide (hx3.alloc hx3.size (.cells #[.int .i64 e.key, .int .i64 e.value, .int .i64 e.time, .int .i64 e.who, .bool e.gone] 65))
                  have HWA := hide ((unhide HBW).alloc (unhide HBW).size (.cells #[.int .i64 e.key, .int .i64 e.value, .int .i64 e.time, .int .i64 e.who, .bool e.gone] 65))
                  clear hce he
                  obtain ⟨ek, ev, et, ew, eg⟩ := e
                  dsimp only at z0 z1 z2 z3 z4 HTM HBE HZA HXA HWA
                  by_cases d1 : 7 < ek
                  · have HR12 := hide (unhide HFULL (unhide HBE (by simp; omega)))
                    go_wp2_with fail
                    go_ret2
                    rw [unhide HRP2, if_pos (unhide HR12)]
                    exact ⟨_, rfl, World.ownsRow_nil _ _ _ _, unhide HZA⟩
                  by_cases d2 : 255 < ev
                  · have HR12 := hide (unhide HFULL (unhide HBE (by simp; omega)))
                    go_wp2_with fail
                    go_ret2
                    rw [unhide HRP2, if_pos (unhide HR12)]
                    exact ⟨_, rfl, World.ownsRow_nil _ _ _ _, unhide HZA⟩
                  have HNM2 := hide (show (es.take (m + 1)).any (fun e => decide (8 ≤ e.key) || decide (255 < e.value)) = false by
                    rw [unhide HTM, List.any_append, unhide HNM]
                    simp
                    omega)
                  go_wp2_with fail
                  go_roundw
                  case rel => exact ⟨m + 1, by omega, by go_num, HNM2, HWA, unhide HXA, unhide HZA⟩
                  case measure => simp [intOf]; omega
                · obtain rfl : m = n := by omega
                  have hnb : badRow es = false := by
                    have h := unhide HNM
                    rw [List.take_of_length_le (by rw [unhide HN]; exact Nat.le_refl _)] at h
                    exact h
                  have HSO := hide (fun e he => (badRow_no (unhide HMR) hnb e he).1)
                  have HNB3 := hide (show (bothGo a b (ls.take (i + 1)) 0).any (fun i => badRow ((rs.map EnR.es).getD i [])) = false by rw [unhide HAN]; exact hnb)
                  have HD3 := hide (own_below' (unhide HD) (unhide HBW))
                  obtain ⟨D, hD⟩ : ∃ D, D = allBits (rumFs (rs.map EnR.es) (bothGo a b (ls.take i) 0)) := ⟨_, rfl⟩
                  rw [← hD] at HD3 HDL
                  have HDD := hide hD
                  clear hnb HNM HBW hD HRE HFULL
                  go_wp2_with fail
                  go_loopw [12, 17] (fun o j W => ∃ (x : Nat), x ≤ 8 ∧ j = .int .i64 x ∧ Hid (W.ownsRow w1.heap.size 3 1 o (L + 34 * x) (natCells (D ++ allBits ((slotsOf es).take x)))) ∧ Below w1.heap.size w1 W ∧ Below w.heap.size w W) (fun _ j _ => 8 - (intOf j).toNat)
                  case atStart => exact ⟨0, Nat.zero_le _, rfl, hide (by rw [List.take_zero, show allBits [] = [] from rfl, List.append_nil]; exact unhide HD3), hx3, hz3⟩
                  case round =>
                    obtain ⟨x, hx8, rfl, HDx, hx4, hz4⟩ := hrel
                    by_cases hxl : x < 8
                    · obtain ⟨hfl, hfo⟩ := slotFs_ok (unhide HSO) ((x : Nat) : Int)
                      have hfb := slotFs_bits_len (unhide HSO) x
                      have HSB := hide (slots_bits (unhide HSO) x hxl)
                      have HSFx := hide (unhide HSF wr hz4 x)
                      obtain ⟨F, hF⟩ : ∃ F, F = slotFs es ((x : Nat) : Int) := ⟨_, rfl⟩
                      rw [← hF] at HSFx hfl hfo HSB hfb
                      obtain ⟨fn, hfn⟩ : ∃ fn, fn = F.length := ⟨_, rfl⟩
                      rw [← hfn] at HSFx hfl
                      have HFN := hide hfn.symm
                      have HFO := hide hfo
                      have HFB := hide hfb
                      have hx8' : (x : Int) < 8 := by omega
                      clear hF hfn hfo hfb
                      go_wp2_with fail
                      refine (unhide HSFx).mono ?_
                      rintro _ w5 ⟨g, cg, rfl, kg, hgl, hb5⟩
                      have hx5 : Below w1.heap.size w1 w5 := hx4.trans (hb5.mono hx4.size)
                      have hz5 : Below w.heap.size w w5 := hz4.trans (hb5.mono hz4.size)
                      have HKG := hide kg
                      have HD5 := hide (own_below' (unhide HDx) hb5)
                      obtain ⟨E, hE⟩ : ∃ E, E = D ++ allBits ((slotsOf es).take x) := ⟨_, rfl⟩
                      rw [← hE] at HD5
                      have HEE := hide hE
                      obtain ⟨M, hM⟩ : ∃ M, M = L + 34 * x := ⟨_, rfl⟩
                      rw [← hM] at HD5
                      have hMb : M ≤ 2000 := by omega
                      have HMM := hide hM
                      clear kg hb5 hE hM hgl
                      go_wp2_with fail
                      go_loopw [12, 108] (fun o j W => ∃ (y N : Nat), y ≤ fn ∧ j = .int .i64 y ∧ N ≤ M + 34 * y ∧ Hid ((allBits (F.take y)).length + M = N) ∧ Hid (W.ownsRow w1.heap.size 3 1 o N (natCells (E ++ allBits (F.take y)))) ∧ Hid (Blk W g 53 (F.flatMap fldCells).toArray) ∧ Below w1.heap.size w1 W ∧ Below w.heap.size w W) (fun _ j _ => fn - (intOf j).toNat)
                      case atStart => exact ⟨0, M, Nat.zero_le _, rfl, by omega, hide (by rw [List.take_zero]; simp [allBits]), hide (by rw [List.take_zero, show allBits [] = [] from rfl, List.append_nil]; exact unhide HD5), HKG, hx5, hz5⟩
                      case round =>
                        obtain ⟨y, N, hy, rfl, hN, HNL, HDy, HKy, hx6, hz6⟩ := hrel
                        by_cases hyl : y < fn
                        · obtain ⟨bf, of, f, hbf, _, hf, hcf⟩ := at_row fldCells_len (by omega) (reads_at0 (unhide HKy) 2 fn (by rw [flat_len fldCells_len, unhide HFN])) hyl (unhide HFN)
                          have q0 : wr.cell? ⟨bf, of + y * 2, none⟩ = some (.int .i64 f.1) := hcf 0 _ rfl
                          have q1 : wr.cell? ⟨bf, of + y * 2 + 1, none⟩ = some (.int .i64 f.2) := hcf 1 _ rfl
                          injection hbf with hbf
                          injection hbf with hbf1 hbf2
                          subst hbf1 hbf2
                          simp only [Nat.zero_add] at q0 q1
                          have hfo := unhide HFO f (List.mem_of_getElem? hf)
                          have HTF := hide (show allBits (F.take (y + 1)) = allBits (F.take y) ++ fieldBits f by rw [take_snoc F y f hf, allBits_append, allBits_one])
                          have HGT := hide (fun z hz => fieldBits_get f z hz)
                          have HFL := hide (fieldBits_len f)
                          obtain ⟨wd, v⟩ := f
                          dsimp only at q0 q1 hfo HGT HFL
                          obtain ⟨wd, rfl⟩ := Int.eq_ofNat_of_zero_le (show 0 ≤ wd by omega)
                          obtain ⟨v, rfl⟩ := Int.eq_ofNat_of_zero_le hfo.2.1
                          obtain ⟨⟨f1, f2⟩, ⟨_, f3⟩⟩ := hfo
                          have hwd1 : 1 ≤ wd := by omega
                          have hwd2 : wd ≤ 34 := by omega
                          have hv : v ≤ 1048576 := by omega
                          have hyl' : (y : Int) < (fn : Int) := by omega
                          simp only [Int.toNat_natCast] at HGT HFL
                          generalize fieldBits ((wd : Int), (v : Int)) = FB at *
                          obtain ⟨w7, hw7⟩ : ∃ w7, w7 = wr.alloc (.cells #[.int .i64 wd, .int .i64 v] 53) := ⟨_, rfl⟩
                          have hb7 : Below wr.heap.size wr w7 := by rw [hw7]; exact (Below.refl _ _).alloc (Nat.le_refl _) _
                          obtain ⟨pf, hpf⟩ : ∃ pf, pf = wr.heap.size := ⟨_, rfl⟩
                          have kf : Blk w7 pf 53 #[.int .i64 wd, .int .i64 v] := by rw [hw7, hpf]; exact Blk.new _ _ _
                          have HKF := hide kf
                          have HK7 := hide ((unhide HKy).below hb7 (unhide HKy).lt)
                          have HD7 := hide (own_below' (unhide HDy) hb7)
                          have hx7 : Below w1.heap.size w1 w7 := hx6.trans (hb7.mono hx6.size)
                          have hz7 : Below w.heap.size w w7 := hz6.trans (hb7.mono hz6.size)
                          obtain ⟨G, hG⟩ : ∃ G, G = E ++ allBits (F.take y) := ⟨_, rfl⟩
                          rw [← hG] at HD7
                          have HGG := hide hG
                          have HW7 := hide hw7
                          have HPF := hide hpf
                          have kf0 := kf.cell 0
                          have kf1 := kf.cell 1
                          simp only [List.getElem?_toArray, List.getElem?_cons_zero, List.getElem?_cons_succ] at kf0 kf1
                          clear hcf hf hw7 hb7 kf hG hpf
                          go_upto_region 30 with fail
                          rw [← unhide HW7, ← unhide HPF]
                          clear q0 q1
                          go_wp2_with fail
                          go_loopw [12, 20] (fun o j W => ∃ (u : Nat), u ≤ wd ∧ j = .int .i64 ((wd : Int) - 1 - u) ∧ Hid (W.ownsRow w1.heap.size 3 1 o (N + u) (natCells (G ++ FB.take u))) ∧ Hid (Blk W g 53 (F.flatMap fldCells).toArray) ∧ Hid (Blk W pf 53 #[.int .i64 wd, .int .i64 v]) ∧ Below w1.heap.size w1 W ∧ Below w.heap.size w W) (fun _ j _ => ((intOf j) + 1).toNat)
                          case atStart => exact ⟨0, Nat.zero_le _, by simp, hide (by rw [List.take_zero, List.append_nil]; exact unhide HD7), HK7, HKF, hx7, hz7⟩
                          case round =>
                            obtain ⟨u, hu, rfl, HDu, HKu, HPu, hx8, hz8⟩ := hrel
                            by_cases hul : u < wd
                            · obtain ⟨kk, hkk⟩ : ∃ kk : Nat, kk = wd - 1 - u := ⟨_, rfl⟩
                              have hjk : (wd : Int) - 1 - u = (kk : Int) := by omega
                              rw [hjk]
                              have HTB := hide (take_snoc FB u _ (unhide HGT u hul))
                              rw [← hkk] at HTB
                              have hav := and1_val v kk (by omega)
                              have HKK := hide (show (kk : Int) - 1 = (wd : Int) - 1 - ((u + 1 : Nat) : Int) by omega)
                              have hkb : kk ≤ 40 := by omega
                              have qf0 := (unhide HPu).cell 0
                              have qf1 := (unhide HPu).cell 1
                              simp only [List.getElem?_toArray, List.getElem?_cons_zero, List.getElem?_cons_succ] at qf0 qf1
                              obtain ⟨AO, cO, rfl, _⟩ := own_slice (unhide HDu)
                              have hmq : (N + u + 1) * 8 ≤ 140737488355328 := by omega
                              have hs8 := hx8.size
                              have HJK := hide hjk
                              obtain ⟨bv, hbv⟩ : ∃ bv : Nat, bv = v / 2 ^ kk % 2 := ⟨_, rfl⟩
                              rw [← hbv] at hav HTB
                              clear hkk hjk hbv kf0 kf1
                              go_wp2_with (first
                                | (at_builtin; (refine wpList_append_new _ rfl (.tmp 119) (.tmp 125) _ rfl w1.heap.size 3 iI _ 1 8 Try.underlying22 hiI hzI hsI hyI rfl (by omega) (by omega) _ _ _ (unhide HDu) rfl _ 1 _ rfl rfl rfl (by simp [Value.oneCell']) hmq hs8 ?_); intro g9 cap9 w9 hg9 hown9 hbel9 hgr9 hat9; have HX9 := hide (hbel9 w1.heap.size w1 (Nat.le_refl _) hx8); have HB9 := hide ((unhide HB1).trans ((unhide HX9).mono (unhide HB1).size)); have HK9 := hide ((unhide HKu).grown hgr9 (own_blk_ne' (unhide HDu) (unhide HKu) (by decide))); have HP9 := hide ((unhide HPu).grown hgr9 (own_blk_ne' (unhide HDu) (unhide HPu) (by decide))); have HO9 := hide hown9; clear hg9 hown9 hbel9 hgr9 hat9))
                              go_roundw
                              case rel => exact ⟨u + 1, by omega, by rw [unhide HKK], hide (by
                                have h := unhide HO9
                                rw [unhide HTB, ← List.append_assoc, natCells_append]
                                exact h), HK9, HP9, unhide HX9, unhide HB9⟩
                              case measure => simp [intOf]
                            · obtain rfl : u = wd := by omega
                              have HFIN := hide (show wr.ownsRow w1.heap.size 3 1 u12 (N + u) (natCells (E ++ allBits (F.take (y + 1)))) by
                                have h := unhide HDu
                                rw [List.take_of_length_le (by rw [unhide HFL]; exact Nat.le_refl _), unhide HGG, List.append_assoc, ← unhide HTF] at h
                                exact h)
                              have HLEN := hide (show (allBits (F.take (y + 1))).length + M = N + u by
                                rw [unhide HTF, List.length_append, unhide HFL]
                                have := unhide HNL
                                omega)
                              have d8 : decide (((u : Int) - 1 - u) < 0) = true := by simp; omega
                              go_wp2_with fail
                              go_roundw
                              case rel => exact ⟨y + 1, N + u, by omega, by go_num, by omega, HLEN, HFIN, HKu, hx8, hz8⟩
                              case measure => simp [intOf]; omega
                        · obtain rfl : y = fn := by omega
                          have hFF : F.take y = F := List.take_of_length_le (by rw [unhide HFN]; exact Nat.le_refl _)
                          have HNX := hide (show N = L + 34 * (x + 1) by
                            have h1 := unhide HNL
                            rw [hFF, unhide HFB] at h1
                            have := unhide HMM
                            omega)
                          have HDN := hide (show wr.ownsRow w1.heap.size 3 1 u12 (L + 34 * (x + 1)) (natCells (D ++ allBits ((slotsOf es).take (x + 1)))) by
                            have h := unhide HDy
                            rw [hFF, unhide HEE, List.append_assoc, ← unhide HSB, unhide HNX] at h
                            exact h)
                          clear hFF
                          go_wp2_with fail
                          go_roundw
                          case rel => exact ⟨x + 1, by omega, by go_num, HDN, hx6, hz6⟩
                          case measure => simp [intOf]; omega
                    · obtain rfl : x = 8 := by omega
                      have HSN2 := hide (show allBits (rumFs (rs.map EnR.es) (bothGo a b (ls.take (i + 1)) 0)) = D ++ allBits ((slotsOf es).take 8) by
                        rw [unhide HTK, unhide HSN, allBits_append, ← unhide HDD, show (slotsOf es).take 8 = slotsOf es from List.take_of_length_le (by rw [slotsOf_len]; exact Nat.le_refl _)])
                      go_wp2_with fail
                      go_roundw
                      case rel => exact ⟨i + 1, L + 34 * 8, by omega, by go_num, by omega, hide (by
                        rw [unhide HSN2, List.length_append, unhide HDL]
                        have h := (unhide HDx).1
                        unfold natCells at h
                        rw [List.length_map, List.length_append, unhide HDL] at h
                        omega), hide (by rw [unhide HSN2]; exact unhide HDx), HNB3, hx4, hz4⟩
                      case measure => simp [intOf]; omega
        · obtain rfl : i = k := by omega
          have hlt : ls.take i = ls := List.take_of_length_le (by rw [unhide HLL]; exact Nat.le_refl _)
          rw [hlt] at HDL HD HNB
          have HR2 := hide (show rumourP ⟨br, ⟨lA, i, lc, ls⟩, tk, ⟨mA, mn, mc, ms⟩, cap⟩ a b (TabR.es ⟨rs, tA, tc⟩) = (bytesOf (allBits (rumFs (rs.map EnR.es) (bothGo a b ls 0))) (34 * (bothGo a b ls 0).length), 0) by
            rw [unhide HRP2, if_neg (by rw [unhide HNB]; simp)])
          have HLN := hide (allBits_rum_len (rs.map EnR.es) (bothGo a b ls 0))
          have HLE := hide (allBits_le (rumFs (rs.map EnR.es) (bothGo a b ls 0)))
          obtain ⟨D, hD⟩ : ∃ D, D = allBits (rumFs (rs.map EnR.es) (bothGo a b ls 0)) := ⟨_, rfl⟩
          rw [← hD] at HDL HD HR2 HLN HLE
          obtain ⟨q, hq⟩ : ∃ q, q = (bothGo a b ls 0).length := ⟨_, rfl⟩
          rw [← hq] at HR2 HLN
          have hLq : L = 272 * q := by have h1 := unhide HDL; have h2 := unhide HLN; omega
          obtain ⟨AD, cD, rfl, _⟩ := own_slice (unhide HD)
          have HLQ := hide hLq
          clear hlt hD hq hLq HNB HRP2
          go_wp2_with fail
          go_loopw [21, 131] (fun o j W => ∃ (u : Nat), u ≤ L ∧ j = .int .i64 u ∧ Hid (W.ownsRow w.heap.size 5 1 o ((u + 7) / 8) ((bytesOf (D.take u) ((u + 7) / 8)).map (.int .u8))) ∧ Hid (W.ownsRow w1.heap.size 3 1 (.slice AD L cD) L (natCells D)) ∧ Below w.heap.size w W) (fun _ j _ => L - (intOf j).toNat)
          case atStart => exact ⟨0, Nat.zero_le _, rfl, World.ownsRow_nil _ _ _ _, HD, hz2'⟩
          case round =>
            obtain ⟨u, hu, rfl, HOu, HDu, hzu⟩ := hrel
            by_cases hul : u < L
            · obtain ⟨bd, od, bv, hbd, _, hbv, hcd⟩ := val_at (fun b : Nat => Value.int .i64 ((b : Nat) : Int)) (Reads.of_own (unhide HDu)) hul
              subst hbd
              have hb1 := unhide HLE bv (List.mem_of_getElem? hbv)
              have HTK := hide (take_snoc D u bv hbv)
              have hul' : (u : Int) < (L : Int) := by omega
              clear hbv
              by_cases h8 : u % 8 = 0
              · have e1 : (u + 7) / 8 = u / 8 := by omega
                have hut : u / 8 ≤ 1000 := by omega
                rw [e1] at HOu
                have HGR := hide (bytesOf_grow (D.take u) (u / 8) (by rw [List.length_take, unhide HDL]; omega))
                obtain ⟨AO, cO, rfl, _⟩ := own_slice (unhide HOu)
                have hmq : (u / 8 + 1) * 1 ≤ 140737488355328 := by omega
                have hsu := hzu.size
                have h8' : ((u : Int) % 8 == 0) = true := by simp; omega
                obtain ⟨nb, hnb⟩ : ∃ nb, nb = u / 8 := ⟨_, rfl⟩
                rw [← hnb] at HOu HGR hmq hut
                rw [← hnb]
                have HNBU := hide hnb
                clear e1 hnb
                go_wp2_with (first
                  | (at_builtin; (refine wpList_append_new _ rfl (.tmp 139) (.tmp 140) _ rfl w.heap.size 5 iU _ 1 1 Try.underlying26 hiU hzU hsU hyU rfl (by omega) (by omega) _ _ _ (unhide HOu) rfl _ 1 _ rfl rfl rfl (by simp [Value.oneCell']) hmq hsu ?_); intro gq capq wq hgq hown9 hbel9 hgr9 hat9; have hzq := hbel9 w.heap.size w (Nat.le_refl _) hzu; have HDq := hide (own_grown_far (unhide HDu) (unhide HOu) (by decide) hgr9); have HO9 := hide hown9; have HGL := hide hgq; clear hgq hown9 hbel9 hgr9 hat9))
                have HOx := hide (show wq.ownsRow w.heap.size 5 1 (.slice (some ⟨gq, 0, none⟩) (u / 8 + 1) capq) (u / 8 + 1) ((bytesOf (D.take u) (u / 8 + 1)).map (.int .u8)) by
                  have h := unhide HO9
                  rw [unhide HNBU] at h
                  have hg := unhide HGR
                  rw [unhide HNBU] at hg
                  rw [hg, List.map_append]
                  exact h)
                obtain ⟨curq, HBK', _⟩ := own_curU (unhide HOx)
                have HBK := hide HBK'
                clear HBK'
                rw [unhide HNBU]
                have hot := unhide HOx
                have hub : u / 8 < u / 8 + 1 := by omega
                have htl : (D.take u).length = u := by rw [List.length_take, unhide HDL]; omega
                have hle : ∀ b ∈ D.take u, b ≤ 1 := fun b hb => unhide HLE b (List.mem_of_mem_take hb)
                have hlow := byteOf_low (D.take u)
                have hbl := byteOf_le (D.take u) hle (u / 8)
                rw [htl] at hlow
                have hpv := (put_val (byteOf (D.take u) (u / 8)) bv (u % 8) (by omega) hb1 hbl hlow).1
                have hsn := bytesOf_snoc (D.take u) bv (u / 8 + 1) (by rw [htl]; exact hub)
                rw [htl, ← unhide HTK] at hsn
                have hcx : wq.cell? ⟨gq, u / 8, none⟩ = some (.int .u8 (byteOf (D.take u) (u / 8) : Nat)) := own_cells hot (u / 8) (by rw [List.getElem?_map, bytesOf_get _ _ _ hub]; rfl)
                have hfx := (own_isSome hot (u / 8) (by have := (own_caps hot).2.1; omega)).2
                have HSN := hide hsn
                obtain ⟨old, hold⟩ : ∃ old, old = byteOf (D.take u) (u / 8) := ⟨_, rfl⟩
                rw [← hold] at hpv hcx HSN
                have hpv2 : bits .or .u8 (old : Int) (wrap64 ((bv : Int) * 128) % 256) = ((old + bv * 2 ^ (7 - u % 8) : Nat) : Int) := by have h := hpv; rw [h8] at h ⊢; exact h
                have HVAL := hide (show ((old + bv * 2 ^ (7 - u % 8) : Nat) : Int) = (old : Int) + (bv : Int) * 128 by rw [h8]; simp)
                clear hot htl hle hlow hbl hsn hold
                refine wp_region_draw_tail 13 (by kernel_rfl) (by kernel_rfl) ?_
                simp only [List.take_succ_cons, List.take_zero, List.drop_succ_cons, List.drop_zero]
                repeat (go_big_quiet_step (fail))
                refine wpQuiet_nil ?_
                rintro _ ⟨nq, rfl⟩
                go_wp2_with fail
                go_roundw
                case rel => exact ⟨u + 1, by omega, by go_num, hide (by
                  have h := own_set1 (w := wq.drewN nq) (unhide HOx) (u / 8) (.int .u8 ((old : Int) + (bv : Int) * 128)) hub
                  rw [show (u + 1 + 7) / 8 = u / 8 + 1 by omega, unhide HSN, List.map_set, unhide HVAL]
                  exact h), hide (own_only (w := wq.drewN nq) (unhide HDq) (only_put (Only.refl _ _) _ _) (fun x hx e => own_blk_ne (g := gq) (unhide HDq) (unhide HBK) (by decide) (by rw [hx, e]))), (below_drewN hzq nq).setCell (by exact unhide HGL) _⟩
                case measure => simp [intOf]; omega
              · have e1 : (u + 7) / 8 = u / 8 + 1 := by omega
                rw [e1] at HOu
                obtain ⟨gq, capq, curq, rfl, hgq, _, hbk, _⟩ := own_cur1' (unhide HOu) (by omega)
                have HGL := hide hgq
                have HBK := hide hbk
                have hut : u / 8 ≤ 1000 := by omega
                have h8' : ((u : Int) % 8 == 0) = false := by simp; omega
                have HOx := hide (unhide HOu)
                have HDq := hide (unhide HDu)
                have hzq := hzu
                clear e1 hgq hbk
                go_wp2_with fail
                have hot := unhide HOx
                have hub : u / 8 < u / 8 + 1 := by omega
                have htl : (D.take u).length = u := by rw [List.length_take, unhide HDL]; omega
                have hle : ∀ b ∈ D.take u, b ≤ 1 := fun b hb => unhide HLE b (List.mem_of_mem_take hb)
                have hlow := byteOf_low (D.take u)
                have hbl := byteOf_le (D.take u) hle (u / 8)
                rw [htl] at hlow
                have hpv := (put_val (byteOf (D.take u) (u / 8)) bv (u % 8) (by omega) hb1 hbl hlow).1
                have hsn := bytesOf_snoc (D.take u) bv (u / 8 + 1) (by rw [htl]; exact hub)
                rw [htl, ← unhide HTK] at hsn
                have hcx : wr.cell? ⟨gq, u / 8, none⟩ = some (.int .u8 (byteOf (D.take u) (u / 8) : Nat)) := own_cells hot (u / 8) (by rw [List.getElem?_map, bytesOf_get _ _ _ hub]; rfl)
                have hfx := (own_isSome hot (u / 8) (by have := (own_caps hot).2.1; omega)).2
                have HSN := hide hsn
                obtain ⟨old, hold⟩ : ∃ old, old = byteOf (D.take u) (u / 8) := ⟨_, rfl⟩
                rw [← hold] at hpv hcx HSN
                clear hot htl hle hlow hbl hsn hold
                refine wp_region_draw_tail 13 (by kernel_rfl) (by kernel_rfl) ?_
                simp only [List.take_succ_cons, List.take_zero, List.drop_succ_cons, List.drop_zero]
                repeat (go_big_quiet_step (fail))
                refine wpQuiet_nil ?_
                rintro _ ⟨nq, rfl⟩
                go_wp2_with fail
                go_roundw
                case rel => exact ⟨u + 1, by omega, by go_num, hide (by
                  have h := own_set1 (w := wr.drewN nq) (unhide HOx) (u / 8) (.int .u8 ((old + bv * 2 ^ (7 - u % 8) : Nat) : Int)) hub
                  rw [show (u + 1 + 7) / 8 = u / 8 + 1 by omega, unhide HSN, List.map_set]
                  exact h), hide (own_only (w := wr.drewN nq) (unhide HDq) (only_put (Only.refl _ _) _ _) (fun x hx e => own_blk_ne (g := gq) (unhide HDq) (unhide HBK) (by decide) (by rw [hx, e]))), (below_drewN hzq nq).setCell (by exact unhide HGL) _⟩
                case measure => simp [intOf]; omega
            · obtain rfl : u = L := by omega
              go_wp2_with fail
              go_ret2
              rw [unhide HR2]
              have h := unhide HOu
              have e : (u + 7) / 8 = 34 * q := by have := unhide HLQ; omega
              rw [List.take_of_length_le (by rw [unhide HDL]; exact Nat.le_refl _), e] at h
              exact ⟨_, rfl, by dsimp only; simpa [bytesOf] using h, hzu⟩
end Go.Proofs.Ytbkciniikahjhaa
