/- frame.Rumour. Conditions: none beyond what each theorem states. -/
import Derived.Test.YtbkciniikahjhaaRumE
import Derived.Test.YtbkciniikahjhaaWireC
import Derived.Test.YtbkciniikahjhaaCalmTail
namespace Go.Proofs.Ytbkciniikahjhaa
open Go.RowKit
set_option linter.unusedVariables false

theorem ent_info2 : ∃ i, Try.prog.info? 53 = some i ∧ i.zero = some (.agg #[.int .i64 0, .int .i64 0]) ∧ i.size = 2 ∧ i.bytes = 16 := info_of (by kernel_rfl)
set_option maxRecDepth 100000 in
set_option maxHeartbeats 8000000 in
theorem rumour_good (c : Cfg) (a b : Nat) (t : TabR) (B : Nat) (w : World) (hc : c.ok w B) (ht : TabOk w B t) (hB : B ≤ w.heap.size) (hcf : configP c = true) (hab : brOk c a = true ∧ brOk c b = true) (hlen : t.es.length = c.la.zs.length) (hmay : t.es.any (fun l => !mayP l) = false) :
    Calls Try.prog 17 #[c.val, .int .i64 a, .int .i64 b, t.val] w (RumPost (rumourP c a b t.es) w) := by
  obtain ⟨b1, b2, b3, b4⟩ := config_br hcf
  have ha8 : a ≤ 8 := by have := hab.1; unfold brOk at this; simp at this; omega
  have hb8 : b ≤ 8 := by have := hab.2; unfold brOk at this; simp at this; omega
  have HRP := hide (show rumourP c a b t.es = if (bothGo a b c.la.zs 0).any (fun i => badRow (t.es.getD i [])) = true then ([], 12) else (bytesOf (allBits (rumFs t.es (bothGo a b c.la.zs 0))) (34 * (bothGo a b c.la.zs 0).length), 0) by
    unfold rumourP
    rw [if_neg (by rw [hcf]; simp), if_neg (by rw [hab.1, hab.2]; simp), if_neg (by rw [hlen]; simp), if_neg (by rw [hmay]; simp), Int.toNat_natCast, Int.toNat_natCast])
  have hisl := bothGo_len a b c.la.zs 0
  have hism := bothGo_mem a b c.la.zs 0
  have HMY := hide (fun W (hW : Below w.heap.size w W) => frameMay_any c B W (hc.below (hW.mono hB)) (Nat.le_trans hB hW.size))
  rw [hcf] at HMY
  have HBR := hide (fun (W : World) (g : Nat) (hg : Blk W g 3 #[.int .i64 (a : Int), .int .i64 (b : Int)]) => frameBranch_any c (some ⟨g, 0, none⟩) 2 2 [(a : Int), (b : Int)] W.heap.size W (by omega) rfl (by unfold maxLen; omega) (by have := reads_of_blk (cs := [.int .i64 (a : Int), .int .i64 (b : Int)]) hg hg.lt; simpa using this) (Nat.le_refl _))
  rw [show [(a : Int), (b : Int)].all (brOk c) = true by simp [hab.1, hab.2]] at HBR
  have HTC := hide (fun (W : World) (hW : Below w.heap.size w W) => entContains_any 38 (fun r => !mayP r.es) t.A t.rs.length t.c t.rs W rfl ht.len ((ht.rd.below (hW.mono hB)).1.more (Nat.le_trans hB hW.size)) rumClo_enters (fun r W2 hr hW2 => (rumClo_any r.A r.es.length r.c r.es W.heap.size W2 rfl (ht.each r hr) ((((ht.rd.below (hW.mono hB)).2 r hr).more (Nat.le_trans hB hW.size)).below hW2) hW2.size).mono fun _ _ ⟨he, hb⟩ => ⟨he, hW2.trans (hb.mono hW2.size)⟩))
  rw [show t.rs.any (fun r => !mayP r.es) = false by rw [← hmay]; unfold TabR.es; rw [List.any_map]; rfl] at HTC
  have HSH := hide (fun (W : World) (hW : Below w.heap.size w W) => frameShared_any c a b B W (hc.below (hW.mono hB)) (Nat.le_trans hB hW.size) (by omega) (by omega) b3 b4)
  obtain ⟨is, his⟩ : ∃ is, is = bothGo a b c.la.zs 0 := ⟨_, rfl⟩
  rw [← his] at HRP HSH hisl hism
  have hll := hc.1.1
  have hrl : t.rs.length = c.la.n := by rw [← hll, ← hlen]; unfold TabR.es; rw [List.length_map]
  have HRT := hide (ht.more hB)
  have HMAY := hide (fun r (hr : r ∈ t.rs) => show mayP r.es = true by
    have h1 : ∀ l ∈ t.es, ¬ (!mayP l) = true := by simpa using List.any_eq_false.1 hmay
    have := h1 r.es (List.mem_map.2 ⟨r, hr, rfl⟩)
    simpa using this)
  have HISL := hide hisl
  have hq4 : is.length ≤ 4 := by omega
  have HISM := hide (fun i (hi : i ∈ is) => show i < c.la.n by have := hism i hi; omega)
  obtain ⟨w1, hw1⟩ : ∃ w1, w1 = w.alloc (.cells c.cells.toArray 24) := ⟨_, rfl⟩
  have hb1 : Below w.heap.size w w1 := by rw [hw1]; exact (Below.refl _ _).alloc (Nat.le_refl _) _
  obtain ⟨p, hp⟩ : ∃ p, p = w.heap.size := ⟨_, rfl⟩
  have kb : Blk w1 p 24 c.cells.toArray := by rw [hw1, hp]; exact Blk.new w _ _
  have HB1 := hide hb1
  have HW1 := hide hw1
  have HP := hide hp
  have k0 := fun (W : World) (hz : Below w1.heap.size w1 W) => (kb.below hz kb.lt).cell 0
  have k1 := fun (W : World) (hz : Below w1.heap.size w1 W) => (kb.below hz kb.lt).cell 1
  have k2 := fun (W : World) (hz : Below w1.heap.size w1 W) => (kb.below hz kb.lt).cell 2
  have k3 := fun (W : World) (hz : Below w1.heap.size w1 W) => (kb.below hz kb.lt).cell 3
  have k4 := fun (W : World) (hz : Below w1.heap.size w1 W) => (kb.below hz kb.lt).cell 4
  have hz1 : Below w1.heap.size w1 w1 := Below.refl _ _
  obtain ⟨iF, hiF, hzF, hsF, hyF⟩ := ent_info2
  have hlm := hc.1.2.2.1
  unfold maxLen at hlm
  have hrl4 : t.rs.length ≤ 4 := by rw [hrl]; omega
  clear hb1 kb hp hw1 hc ht hcf hab hlen hmay b1 b2 b3 b4 his hisl hism
  obtain ⟨rs, tA, tc⟩ := t
  obtain ⟨br, ⟨lA, ln, lc, ls⟩, tk, ⟨mA, mn, mc, ms⟩, cap⟩ := c
  unfold Cfg.cells at HW1 k0 k1 k2 k3 k4
  unfold Cfg.val at HMY HBR HSH ⊢
  unfold TabR.val
  dsimp only at HMY HBR HSH HTC HMAY HISM HW1 k0 k1 k2 k3 k4 hll hrl hlm hrl4 ⊢
  simp only [List.getElem?_toArray, List.getElem?_cons_zero, List.getElem?_cons_succ] at k0 k1 k2 k3 k4
  rw [hrl] at HTC hrl4
  rw [hrl]
  have HRL := hide hrl
  clear hll hrl
  go_enter Try.func17, Try.ntmps17
  go_upto_region 1 with fail
  rw [← unhide HP, ← unhide HW1]
  go_wp2_with fail
  refine (unhide HMY w1 (unhide HB1)).mono ?_
  rintro _ w2 ⟨rfl, hb2⟩
  have hz2 : Below w1.heap.size w1 w2 := hb2
  clear hb2
  go_wp2_with fail
  have hz3 : Below w1.heap.size w1 (w2.alloc (.cells #[.int .i64 a, .int .i64 b] 3)) := hz2.alloc hz2.size _
  refine (unhide HBR _ _ (Blk.new w2 _ _)).mono ?_
  rintro _ w3 ⟨rfl, hb3⟩
  have hz4 : Below w1.heap.size w1 w3 := hz3.trans (hb3.mono hz3.size)
  have HB3 := hide ((unhide HB1).trans (hz4.mono (unhide HB1).size))
  clear hb3 hz3 hz2
  go_wp2_with fail
  refine (unhide HTC _ (unhide HB3)).mono ?_
  rintro _ w4 ⟨rfl, hb4⟩
  have hz5 : Below w1.heap.size w1 w4 := hz4.trans (hb4.mono hz4.size)
  have HB4 := hide ((unhide HB1).trans (hz5.mono (unhide HB1).size))
  clear hb4 hz4
  go_wp2_with fail
  refine (unhide HSH _ (unhide HB4)).mono ?_
  rintro _ w5 ⟨v5, rfl, ho5, hb5⟩
  obtain ⟨A5, c5, rfl, _⟩ := own_slice ho5
  have HO5 := hide (own_mono ho5 (unhide HB4).size)
  have hz6 : Below w.heap.size w w5 := (unhide HB4).trans (hb5.mono (unhide HB4).size)
  obtain ⟨q, hq⟩ : ∃ q, q = is.length := ⟨_, rfl⟩
  rw [← hq] at HO5 hq4
  have HQ := hide hq.symm
  rw [← hq]
  clear ho5 hb5 hz5 k0 k1 k2 k3 k4 hz1 hq
  go_wp2_with fail
  have HEND := hide (fun (W : World) (hW : Below w.heap.size w W) (h : is.any (fun i => badRow ((rs.map EnR.es).getD i [])) = true) => show RumPost (rumourP ⟨br, ⟨lA, ln, lc, ls⟩, tk, ⟨mA, mn, mc, ms⟩, cap⟩ a b (TabR.es ⟨rs, tA, tc⟩)) w (.returned (.tuple #[.slice none 0 0, .int .i64 12])) W by
    rw [unhide HRP, if_pos (show (is.any fun i => badRow ((TabR.es ⟨rs, tA, tc⟩).getD i [])) = true from h)]
    exact ⟨_, rfl, World.ownsRow_nil _ _ _ _, hW⟩)
  go_loopw [10, 44] (fun o j W => ∃ (k : Nat), k ≤ q ∧ j = .int .i64 k ∧ Hid (W.ownsRow w.heap.size 53 2 o (8 * k) ((rumFs (rs.map EnR.es) (is.take k)).flatMap fldCells)) ∧ Hid (W.ownsRow w.heap.size 3 1 (.slice A5 q c5) q (is.map fun i => Value.int .i64 ((i : Nat) : Int))) ∧ Hid ((is.drop k).any (fun i => badRow ((rs.map EnR.es).getD i [])) = is.any (fun i => badRow ((rs.map EnR.es).getD i []))) ∧ Below w.heap.size w W) (fun _ j _ => q - (intOf j).toNat)
  case atStart => exact ⟨0, Nat.zero_le _, rfl, World.ownsRow_nil _ _ _ _, HO5, rfl, hz6⟩
  case round =>
    obtain ⟨k, hk, rfl, HF, HI, HBD, hz⟩ := hrel
    by_cases hlt : k < q
    · obtain ⟨bi, oi, i, rfl, _, hi, hci⟩ := val_at (fun i : Nat => Value.int .i64 ((i : Nat) : Int)) (Reads.of_own (unhide HI)) hlt
      have hiln := unhide HISM i (List.mem_of_getElem? hi)
      obtain ⟨bt, ot, r, hbt, _, hr, hcr⟩ := val_at EnR.val ((unhide HRT).below hz).rd.1 (by rw [unhide HRL]; exact hiln)
      dsimp only at hbt hr hcr
      subst hbt
      have hmr := unhide HMAY r (List.mem_of_getElem? hr)
      have hrr := ((unhide HRT).rd.2 r (List.mem_of_getElem? hr))
      have hgd : (rs.map EnR.es).getD i [] = r.es := by rw [List.getD_eq_getElem?_getD, List.getElem?_map, hr]; rfl
      have HTK := hide (take_snoc is k i hi)
      have HDR := hide (show (badRow r.es || (is.drop (k + 1)).any (fun i => badRow ((rs.map EnR.es).getD i []))) = is.any (fun i => badRow ((rs.map EnR.es).getD i [])) by
        have h := unhide HBD
        rw [drop_cons is k i hi, List.any_cons, hgd] at h
        exact h)
      obtain ⟨hrs, hr8, hre⟩ := may_row hmr
      have HSN := hide (rumFs_snoc (rs.map EnR.es) (is.take k) i)
      rw [hgd] at HSN
      obtain ⟨es, rA, rc⟩ := r
      unfold EnR.val at hcr
      dsimp only at hcr hmr hrr hrs hr8 hre HDR HSN
      obtain ⟨n, hn⟩ : ∃ n, n = es.length := ⟨_, rfl⟩
      rw [← hn] at hcr hr8 hrr
      have HN := hide hn.symm
      have HRR := hide hrr
      have HSR := hide hrs
      have HRE := hide hre
      have HMR := hide hmr
      have hkq : (k : Int) < (q : Int) := by omega
      have hil : (i : Int) < (ln : Int) := by omega
      obtain ⟨g, hg⟩ : ∃ g, g = wr.heap.size := ⟨_, rfl⟩
      obtain ⟨w6, hw6⟩ : ∃ w6, w6 = wr.alloc (.cells #[.int .i64 0, .int .i64 0, .int .i64 0, .int .i64 0, .int .i64 0, .int .i64 0, .int .i64 0, .int .i64 0] 63) := ⟨_, rfl⟩
      have hb6 : Below wr.heap.size wr w6 := by rw [hw6]; exact (Below.refl _ _).alloc (Nat.le_refl _) _
      have kg : Blk w6 g 63 ((arrK []).map (Value.int .i64)).toArray := by rw [hw6, hg]; exact Blk.new _ _ _
      have hr6 : w6.cell? ⟨bt, ot + i, none⟩ = some (.slice rA n rc) := Ext.cell ⟨w6, hb6⟩ hcr
      have HG := hide hg
      have HW6 := hide hw6
      have HF6 := hide (own_below' (unhide HF) hb6)
      have HI6 := hide (own_below' (unhide HI) hb6)
      have hz6' : Below w.heap.size w w6 := hz.trans (hb6.mono hz.size)
      have HKG := hide kg
      have HGL := hide (show w.heap.size ≤ g by rw [hg]; exact hz.size)
      clear hi hr hgd hmr hrr hrs hre hn hg hw6 hb6 kg HBD
      go_upto_region 14 with fail
      rw [← unhide HW6, ← unhide HG]
      go_wp2_with fail
      go_loopw [53] (fun j W => ∃ (m : Nat), m ≤ n ∧ j = .int .i64 m ∧ Hid (Blk W g 63 ((arrK (es.take m)).map (Value.int .i64)).toArray) ∧ Hid (Only (fun x => x = g) w6 W) ∧ Hid ((es.take m).any (fun e => decide (8 ≤ e.key) || decide (255 < e.value)) = false) ∧ Below w.heap.size w W) (fun j _ => n - (intOf j).toNat)
      case atStart => exact ⟨0, Nat.zero_le _, rfl, HKG, hide (Only.refl _ _), hide rfl, hz6'⟩
      case round =>
        obtain ⟨m, hm, rfl, HK, HO, HNB, hzm⟩ := hrel
        by_cases hmn : m < n
        · obtain ⟨be, oe, e, rfl, _, he, hce⟩ := at_row entCells_len (by omega) ((unhide HRR).below hzm) hmn (unhide HN)
          have z0 : wr.cell? ⟨be, oe + m * 5, none⟩ = some (.int .i64 e.key) := hce 0 _ rfl
          have z1 : wr.cell? ⟨be, oe + m * 5 + 1, none⟩ = some (.int .i64 e.value) := hce 1 _ rfl
          have z2 : wr.cell? ⟨be, oe + m * 5 + 2, none⟩ = some (.int .i64 e.time) := hce 2 _ rfl
          have z3 : wr.cell? ⟨be, oe + m * 5 + 3, none⟩ = some (.int .i64 e.who) := hce 3 _ rfl
          have z4 : wr.cell? ⟨be, oe + m * 5 + 4, none⟩ = some (.bool e.gone) := hce 4 _ rfl
          have hee := unhide HRE e (List.mem_of_getElem? he)
          have HTM := hide (take_snoc es m e he)
          have HST := hide (sorted_take (unhide HSR) m e he)
          have hbe : (decide (8 ≤ e.key) || decide (255 < e.value)) = true → badRow es = true := fun h => by
            unfold badRow
            rw [List.any_eq_true]
            exact ⟨e, List.mem_of_getElem? he, h⟩
          have HBE := hide hbe
          have hmn' : (m : Int) < (n : Int) := by omega
          have hza := hide (hzm.alloc hzm.size (.cells #[.int .i64 e.key, .int .i64 e.value, .int .i64 e.time, .int .i64 e.who, .bool e.gone] 65))
          clear hce he hbe
          obtain ⟨⟨e1, _⟩, ⟨e2, _⟩, ⟨e3, e4⟩, ⟨e5, e6⟩⟩ := hee
          obtain ⟨ek, ev, et, ew, eg⟩ := e
          dsimp only at z0 z1 z2 z3 z4 e1 e2 e3 e4 e5 e6 HTM HST HBE hza
          by_cases d1 : 8 ≤ ek
          · have HR12 := hide (show badRow es = true from unhide HBE (by simp [d1]))
            go_wp2_with fail
            go_ret2
            exact unhide HEND _ (unhide hza) (by rw [← unhide HDR, unhide HR12]; rfl)
          by_cases d2 : 255 < ev
          · have HR12 := hide (show badRow es = true from unhide HBE (by simp [d2]))
            go_wp2_with fail
            go_ret2
            exact unhide HEND _ (unhide hza) (by rw [← unhide HDR, unhide HR12]; rfl)
          obtain ⟨key, rfl⟩ := Int.eq_ofNat_of_zero_le e1
          have hk8 : key < 8 := by omega
          have hk8' : (key : Int) < 8 := by omega
          obtain ⟨w7, hw7⟩ : ∃ w7, w7 = wr.alloc (.cells #[.int .i64 key, .int .i64 ev, .int .i64 et, .int .i64 ew, .bool eg] 65) := ⟨_, rfl⟩
          have hb7 : Below wr.heap.size wr w7 := by rw [hw7]; exact (Below.refl _ _).alloc (Nat.le_refl _) _
          obtain ⟨pe, hpe⟩ : ∃ pe, pe = wr.heap.size := ⟨_, rfl⟩
          have ke : Blk w7 pe 65 #[.int .i64 key, .int .i64 ev, .int .i64 et, .int .i64 ew, .bool eg] := by rw [hw7, hpe]; exact Blk.new _ _ _
          have s0 := fun n : Ext w7 => n.cell (v := .int .i64 key) (ke.cell 0)
          have s1 := fun n : Ext w7 => n.cell (v := .int .i64 ev) (ke.cell 1)
          have s2 := fun n : Ext w7 => n.cell (v := .int .i64 et) (ke.cell 2)
          have s3 := fun n : Ext w7 => n.cell (v := .int .i64 ew) (ke.cell 3)
          have s4 := fun n : Ext w7 => n.cell (v := .bool eg) (ke.cell 4)
          have HSL := hide (fun W => frameSlot_any ⟨key, ev, et, ew, eg⟩ W ⟨by dsimp only; omega, by dsimp only; omega, by dsimp only; omega⟩)
          unfold entV at HSL
          dsimp only at HSL
          have HSET := hide (show arrK (es.take (m + 1)) = (arrK (es.take m)).set key ((slotN ⟨key, ev, et, ew, eg⟩ : Nat) : Int) by
            rw [unhide HTM]
            exact arrK_snoc (es.take m) ⟨key, ev, et, ew, eg⟩ key (unhide HST) rfl hk8)
          have HNB2 := hide (show (es.take (m + 1)).any (fun e => decide (8 ≤ e.key) || decide (255 < e.value)) = false by
            rw [unhide HTM, List.any_append, unhide HNB]
            simp
            omega)
          generalize slotN ⟨key, ev, et, ew, eg⟩ = sv at *
          have HW7 := hide hw7
          have HPE := hide hpe
          have HB7 := hide hb7
          clear hw7 hpe hb7 ke HST HBE hza HNB
          have d3 : decide (8 ≤ key) = false := by simp; omega
          have d4 : decide (255 < ev) = false := by simp; omega
          go_upto_region 19 with fail
          rw [← unhide HW7, ← unhide HPE]
          clear z0 z1 z2 z3 z4
          refine wp_region_calm_tail 5 (by kernel_rfl) (by kernel_rfl) ?_
          simp only [List.take_succ_cons, List.take_zero, List.drop_succ_cons, List.drop_zero]
          repeat (go_big_quiet_step ((go_at_call 41; exact calm_call (unhide HSL _))))
          refine wpQuiet_nil ?_
          rintro W ⟨nq, hW⟩
          have hWB : Below wr.heap.size wr W := (unhide HB7).trans ((hW ▸ nq.h : Below w7.heap.size w7 W).mono (unhide HB7).size)
          clear hW nq s0 s1 s2 s3 s4
          have kW := (unhide HK).below hWB (unhide HK).lt
          have hfg := kW.frozen key
          have hcg : W.cell? ⟨g, key, none⟩ = some (.int .i64 (slotV (es.take m) ((key : Nat) : Int) : Nat)) := by rw [kW.cell key]; simp [arrK_get _ key hk8]
          have HKW := hide kW
          have HWB := hide hWB
          clear kW hWB
          go_wp2_with fail
          go_roundw
          case rel => exact ⟨m + 1, by omega, by go_num, hide (by
            have h := (unhide HKW).set_ key (.int .i64 sv)
            rw [unhide HSET, List.map_set]
            simpa using h), hide (only_put ((unhide HO).calm (unhide HWB)) _ _), HNB2, (hzm.trans ((unhide HWB).mono hzm.size)).setCell (by exact unhide HGL) _⟩
          case measure => simp [intOf]; omega
        · obtain rfl : m = n := by omega
          rw [List.take_of_length_le (by rw [unhide HN]; exact Nat.le_refl _)] at HK HNB
          have a0 : wr.cell? ⟨g, 0, none⟩ = some (.int .i64 (slotV es ((0 : Nat) : Int) : Nat)) := (unhide HK).cell 0
          have a1 : wr.cell? ⟨g, 1, none⟩ = some (.int .i64 (slotV es ((1 : Nat) : Int) : Nat)) := (unhide HK).cell 1
          have a2 : wr.cell? ⟨g, 2, none⟩ = some (.int .i64 (slotV es ((2 : Nat) : Int) : Nat)) := (unhide HK).cell 2
          have a3 : wr.cell? ⟨g, 3, none⟩ = some (.int .i64 (slotV es ((3 : Nat) : Int) : Nat)) := (unhide HK).cell 3
          have a4 : wr.cell? ⟨g, 4, none⟩ = some (.int .i64 (slotV es ((4 : Nat) : Int) : Nat)) := (unhide HK).cell 4
          have a5 : wr.cell? ⟨g, 5, none⟩ = some (.int .i64 (slotV es ((5 : Nat) : Int) : Nat)) := (unhide HK).cell 5
          have a6 : wr.cell? ⟨g, 6, none⟩ = some (.int .i64 (slotV es ((6 : Nat) : Int) : Nat)) := (unhide HK).cell 6
          have a7 : wr.cell? ⟨g, 7, none⟩ = some (.int .i64 (slotV es ((7 : Nat) : Int) : Nat)) := (unhide HK).cell 7
          have HSG := hide (fun (k : Nat) (hk : k < 8) => slotsOf_get es k hk)
          have HF8 := hide (own_only (unhide HF6) (unhide HO) (fun x hx e => own_blk_ne (unhide HF6) (unhide HKG) (by decide) (by rw [hx, e])))
          have HI8 := hide (own_only (unhide HI6) (unhide HO) (fun x hx e => own_blk_ne (unhide HI6) (unhide HKG) (by decide) (by rw [hx, e])))
          obtain ⟨sv, hsv⟩ : ∃ sv : Nat → Nat, sv = fun k => slotV es ((k : Nat) : Int) := ⟨_, rfl⟩
          have hsv' : ∀ k : Nat, slotV es ((k : Nat) : Int) = sv k := fun k => by rw [hsv]
          rw [hsv'] at a0 a1 a2 a3 a4 a5 a6 a7
          simp only [hsv'] at HSG
          clear hsv hsv'
          have HIX := hide (show ∀ x : Nat, x < 8 → ∀ W : World, (Instr.index 63 (.agg #[.int .i64 (sv 0 : Nat), .int .i64 (sv 1 : Nat), .int .i64 (sv 2 : Nat), .int .i64 (sv 3 : Nat), .int .i64 (sv 4 : Nat), .int .i64 (sv 5 : Nat), .int .i64 (sv 6 : Nat), .int .i64 (sv 7 : Nat)]) (.int .i64 (x : Int))).run Try.prog W = .ok (.int .i64 (sv x : Nat)) W from fun x hx W => by
            rcases (show x = 0 ∨ x = 1 ∨ x = 2 ∨ x = 3 ∨ x = 4 ∨ x = 5 ∨ x = 6 ∨ x = 7 by omega) with rfl | rfl | rfl | rfl | rfl | rfl | rfl | rfl <;> kernel_rfl)
          go_wp2_with fail
          go_loopw [10, 72] (fun o j W => ∃ (x : Nat), x ≤ 8 ∧ j = .int .i64 x ∧ Hid (W.ownsRow w.heap.size 53 2 o (8 * k + x) ((rumFs (rs.map EnR.es) (is.take k) ++ (slotsOf es).take x).flatMap fldCells)) ∧ Hid (W.ownsRow w.heap.size 3 1 (.slice (some ⟨bi, oi, none⟩) q c5) q (is.map fun i => Value.int .i64 ((i : Nat) : Int))) ∧ Below w.heap.size w W) (fun _ j _ => 8 - (intOf j).toNat)
          case atStart => exact ⟨0, Nat.zero_le _, rfl, hide (by rw [List.take_zero, List.append_nil]; exact unhide HF8), HI8, hzm⟩
          case round =>
            obtain ⟨x, hx, rfl, HFx, HIx, hzx⟩ := hrel
            by_cases hx8 : x < 8
            · have HSX := hide (take_snoc (slotsOf es) x _ (unhide HSG x hx8))
              obtain ⟨AF, cF, rfl, _⟩ := own_slice (unhide HFx)
              have hmq : (8 * k + x + 1) * 16 ≤ 140737488355328 := by omega
              have hsx := hzx.size
              have hix := unhide HIX x hx8
              have hx8' : (x : Int) < 8 := by omega
              go_wp2_with (first
                | (at_builtin; (refine wpList_append_new _ rfl (.tmp 75) (.tmp 78) _ rfl w.heap.size 53 iF _ 2 16 Try.underlying51 hiF hzF hsF hyF rfl (by omega) (by omega) _ _ _ (unhide HFx) rfl _ 1 _ rfl rfl rfl (by simp [Value.oneCell']) hmq hsx ?_); intro g7 cap7 w7 hg7 hown7 hbel7 hgr7 hat7; have HB7 := hide (hbel7 w.heap.size w (Nat.le_refl _) hzx); have HI7 := hide (own_grown_far (unhide HIx) (unhide HFx) (by decide) hgr7); have HO7 := hide hown7; clear hg7 hown7 hbel7 hgr7 hat7))
              go_roundw
              case rel => exact ⟨x + 1, by omega, by go_num, hide (by
                have h := unhide HO7
                rw [unhide HSX, ← List.append_assoc, List.flatMap_append]
                exact h), HI7, unhide HB7⟩
              case measure => simp [intOf]; omega
            · obtain rfl : x = 8 := by omega
              have HFE := hide (show wr.ownsRow w.heap.size 53 2 u10 (8 * (k + 1)) ((rumFs (rs.map EnR.es) (is.take (k + 1))).flatMap fldCells) by
                have h := unhide HFx
                rw [show (slotsOf es).take 8 = slotsOf es from List.take_of_length_le (by rw [slotsOf_len]; exact Nat.le_refl _)] at h
                rw [unhide HTK, unhide HSN]
                exact h)
              have HDR2 := hide (show (is.drop (k + 1)).any (fun i => badRow ((rs.map EnR.es).getD i [])) = is.any (fun i => badRow ((rs.map EnR.es).getD i [])) by
                have h := unhide HDR
                have h2 : badRow es = false := unhide HNB
                rw [h2, Bool.false_or] at h
                exact h)
              go_wp2_with fail
              go_roundw
              case rel => exact ⟨k + 1, by omega, by go_num, HFE, HIx, HDR2, hzx⟩
              case measure => simp [intOf]; omega
    · obtain rfl : k = q := by omega
      have hF := unhide HF
      rw [List.take_of_length_le (by rw [unhide HQ]; exact Nat.le_refl _)] at hF
      have hnb : is.any (fun i => badRow ((rs.map EnR.es).getD i [])) = false := by
        have h := unhide HBD
        rw [List.drop_of_length_le (by rw [unhide HQ]; exact Nat.le_refl _)] at h
        exact h.symm
      obtain ⟨AF, cF, rfl, _⟩ := own_slice hF
      have hlen : (rumFs (rs.map EnR.es) is).length = 8 * k := by rw [rumFs_len, unhide HQ]
      have hpk := rum_pack (rs.map EnR.es) is (by rw [unhide HQ]; exact hq4) (fun i hi e he => by
        have hb := List.any_eq_false.1 hnb i hi
        have hlt2 := unhide HISM i hi
        have hr : rs[i]? = some (rs[i]'(by rw [unhide HRL]; exact hlt2)) := List.getElem?_eq_getElem _
        generalize rs[i]'(by rw [unhide HRL]; exact hlt2) = r at hr
        have hgd : (rs.map EnR.es).getD i [] = r.es := by rw [List.getD_eq_getElem?_getD, List.getElem?_map, hr]; rfl
        rw [hgd] at hb he
        exact (badRow_no (unhide HMAY r (List.mem_of_getElem? hr)) (by simpa using hb) e he).1)
      have HPK := hide (wirePack_any AF (8 * k) cF (rumFs (rs.map EnR.es) is) wr hlen (by omega) (Reads.of_own hF))
      have HR := hide (show rumourP ⟨br, ⟨lA, ln, lc, ls⟩, tk, ⟨mA, mn, mc, ms⟩, cap⟩ a b (TabR.es ⟨rs, tA, tc⟩) = packP (rumFs (rs.map EnR.es) is) by
        rw [unhide HRP, if_neg (show ¬ (is.any fun i => badRow ((TabR.es ⟨rs, tA, tc⟩).getD i [])) = true by rw [show (is.any fun i => badRow ((TabR.es ⟨rs, tA, tc⟩).getD i [])) = false from hnb]; simp), hpk]
        rfl)
      have HZ := hide hz
      clear hF hnb hlen hpk hz HF HBD
      go_wp2_with fail
      refine (unhide HPK).mono ?_
      rintro _ w7 ⟨v7, rfl, ho7, hb7⟩
      have HO7 := hide (own_mono ho7 (unhide HZ).size)
      have HB7 := hide ((unhide HZ).trans (hb7.mono (unhide HZ).size))
      clear ho7 hb7
      go_wp2_with fail
      go_ret2
      unfold RumPost
      rw [unhide HR]
      exact ⟨_, rfl, unhide HO7, unhide HB7⟩
theorem rumour_any (c : Cfg) (a b : Int) (t : TabR) (B : Nat) (w : World) (hc : c.ok w B) (ht : TabOk w B t) (hB : B ≤ w.heap.size) :
    Calls Try.prog 17 #[c.val, .int .i64 a, .int .i64 b, t.val] w (RumPost (rumourP c a b t.es) w) := by
  by_cases h : configP c = true ∧ (brOk c a = true ∧ brOk c b = true) ∧ t.es.length = c.la.zs.length ∧ t.es.any (fun l => !mayP l) = false
  · obtain ⟨h1, h2, h3, h4⟩ := h
    have ha : 0 ≤ a := by have := h2.1; unfold brOk at this; simp at this; omega
    have hb : 0 ≤ b := by have := h2.2; unfold brOk at this; simp at this; omega
    obtain ⟨a, rfl⟩ := Int.eq_ofNat_of_zero_le ha
    obtain ⟨b, rfl⟩ := Int.eq_ofNat_of_zero_le hb
    exact rumour_good c a b t B w hc ht hB h1 h2 h3 h4
  · exact rumour_early c a b t B w hc ht hB h
end Go.Proofs.Ytbkciniikahjhaa
