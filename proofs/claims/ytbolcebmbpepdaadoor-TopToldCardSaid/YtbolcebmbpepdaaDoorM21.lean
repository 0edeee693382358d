/- Contracts and plain facts, set together by program out of smaller texts. Conditions: none beyond what each theorem states. -/
import Derived.Test.YtbolcebmbpepdaaDoorProg
import Derived.BigQuiet
import Derived.Test.YtbolcebmbpepdaaDoorM20
import Derived.Test.YtbolcebmbpepdaaDoorM07
import Derived.Test.YtbolcebmbpepdaaDoorM19
import Derived.Test.YtbolcebmbpepdaaDoorM03
import Derived.Test.YtbolcebmbpepdaaDoorM01
import Derived.Test.YtbolcebmbpepdaaDoorM14
namespace Go.Proofs.YtbolcebmbpepdaaDoor
set_option linter.unusedVariables false
section
open Go.RowKit
theorem own_put_far {w : World} {base size n : Nat} {e : TypeId} {v : Value} {xs : List Value} (h : w.ownsRow base e size v n xs) {g : Nat} {t : TypeId} {cs : Array Value} (hb : Blk w g t cs) (hne : e ≠ t) (i : Nat) (u : Value) : (w.setCell ⟨g, i, none⟩ u).ownsRow base e size v n xs :=
  own_only h (only_put (Only.refl _ w) i u) fun k hk hd => own_blk_ne h hb hne (by rw [hk, hd])
theorem OTb.grow {W w7 : World} {base g i pe g7 cap7 : Nat} {S : List EnR} {res : List Ent} {rA : Option Addr} {rc : Nat} {E : Ent} {cs : Array Value} (hT : OTb W base g S) (hi : S[i]? = some ⟨res, rA, rc⟩) (hK : Blk W pe 131 cs)
    (hne : ∀ k, (Value.slice rA res.length rc).ownBlock = some k → k ≠ pe) (hgp : g ≠ pe) (hgr : W.grownBy w7 (Value.slice rA res.length rc).ownBlock)
    (hown : w7.ownsRow base 131 5 (.slice (some ⟨g7, 0, none⟩) (res.length + 1) cap7) (res.length + 1) (res.flatMap entCells ++ entCells E)) (hat : some g7 = (Value.slice rA res.length rc).ownBlock ∨ g7 = W.heap.size + 1) :
    w7.cell? ⟨g, i, none⟩ = some (.slice rA res.length rc) ∧ w7.frozen? ⟨g, i, none⟩ = false ∧ (∀ u, Blk (w7.setCell ⟨g, i, none⟩ u) pe 131 cs) ∧ OTb (w7.setCell ⟨g, i, none⟩ (.slice (some ⟨g7, 0, none⟩) (res.length + 1) cap7)) base g (S.set i ⟨res ++ [E], some ⟨g7, 0, none⟩, cap7⟩) ∧ ∃ cs', Blk w7 g 111 cs' := by
  have hO := hT.rows _ (List.mem_of_getElem? hi)
  have hbk := hT.blk.grown hgr (own_blk_ne' hO hT.blk (by decide))
  refine ⟨?_, hbk.frozen i, fun u => (hK.grown hgr (fun e => hne _ e.symm rfl)).far (fun e => hgp e.symm) u, ?_, _, hbk⟩
  · rw [hbk.cell]
    simp [hi, EnR.val]
  · have h := hT.push (r := ⟨res, rA, rc⟩) (r' := ⟨res ++ [E], some ⟨g7, 0, none⟩, cap7⟩) hi hgr (by simpa [EnR.val, List.flatMap_append] using hown) (by
      rcases hat with e | e
      · exact .inl (by simpa [EnR.val, Value.ownBlock] using e)
      · exact .inr ⟨g7, rfl, by omega⟩)
    simpa [EnR.val] using h
set_option maxRecDepth 100000 in
set_option maxHeartbeats 8000000 in
theorem heard_good (c : Cfg) (a b : Nat) (bA : Option Addr) (bn bc : Nat) (bs : List Int) (B : Nat) (w : World) (hc : c.ok w B) (hB : B ≤ w.heap.size) (hbl : bs.length = bn) (hbn : bn ≤ bc) (hbm : bc ≤ maxLen) (hbr : Reads w B 1 bA bn (bs.map (.int .u8))) (hbz : ∀ z ∈ bs, 0 ≤ z ∧ z ≤ 255) (hcf : configP c = true) (hab : brOk c a = true ∧ brOk c b = true) :
    Calls Tryd.prog 42 #[c.val, .int .i64 a, .int .i64 b, .slice bA bn bc] w (HeaPost (heardP c a b bs) w) := by
  obtain ⟨b1, b2, b3, b4⟩ := config_br hcf
  have ha8 : a ≤ 8 := by have := hab.1; unfold brOk at this; simp at this; omega
  have hb8 : b ≤ 8 := by have := hab.2; unfold brOk at this; simp at this; omega
  have HHP := hide (show heardP c a b bs = if bs.length ≠ 34 * (bothGo a b c.la.zs 0).length then ([], 4) else if goodAll bs (bothGo a b c.la.zs 0).length = true then (rowsN bs (bothGo a b c.la.zs 0) c.la.zs.length (8 * (bothGo a b c.la.zs 0).length), 0) else ([], 4) by
    unfold heardP
    rw [if_neg (by rw [hcf]; simp), if_neg (by rw [hab.1, hab.2]; simp), Int.toNat_natCast, Int.toNat_natCast])
  have hisl := bothGo_len a b c.la.zs 0
  have hism := bothGo_mem a b c.la.zs 0
  have hnd := bothGo_nodup a b c.la.zs 0
  have HMY := hide (fun W (hW : Below w.heap.size w W) => frameMay_any c B W (hc.below (hW.mono hB)) (Nat.le_trans hB hW.size))
  rw [hcf] at HMY
  have HBR := hide (fun (W : World) (g : Nat) (hg : Blk W g 3 #[.int .i64 (a : Int), .int .i64 (b : Int)]) => frameBranch_any c (some ⟨g, 0, none⟩) 2 2 [(a : Int), (b : Int)] W.heap.size W (by omega) rfl (by unfold maxLen; omega) (by have := reads_of_blk (cs := [.int .i64 (a : Int), .int .i64 (b : Int)]) hg hg.lt; simpa using this) (Nat.le_refl _))
  rw [show [(a : Int), (b : Int)].all (brOk c) = true by simp [hab.1, hab.2]] at HBR
  have HSH := hide (fun (W : World) (hW : Below w.heap.size w W) => frameShared_any c a b B W (hc.below (hW.mono hB)) (Nat.le_trans hB hW.size) (by omega) (by omega) b3 b4)
  obtain ⟨is, his⟩ : ∃ is, is = bothGo a b c.la.zs 0 := ⟨_, rfl⟩
  rw [← his] at HHP HSH hisl hism hnd
  have hq4 : is.length ≤ 4 := by omega
  have hll := hc.1.1
  have HISM := hide (fun i (hi : i ∈ is) => show i < c.la.n by have := hism i hi; omega)
  have HBRD := hide (hbr.more hB)
  have HBZ := hide hbz
  have HBL := hide hbl
  have hln4 : c.la.n ≤ 4 := by omega
  rw [hll] at HHP
  obtain ⟨w1, hw1⟩ : ∃ w1, w1 = w.alloc (.cells c.cells.toArray 25) := ⟨_, rfl⟩
  have hb1 : Below w.heap.size w w1 := by rw [hw1]; exact (Below.refl _ _).alloc (Nat.le_refl _) _
  obtain ⟨p, hp⟩ : ∃ p, p = w.heap.size := ⟨_, rfl⟩
  have kb : Blk w1 p 25 c.cells.toArray := by rw [hw1, hp]; exact Blk.new w _ _
  have HB1 := hide hb1
  have HW1 := hide hw1
  have HP := hide hp
  have k0 := fun (W : World) (hz : Below w1.heap.size w1 W) => (kb.below hz kb.lt).cell 0
  have k1 := fun (W : World) (hz : Below w1.heap.size w1 W) => (kb.below hz kb.lt).cell 1
  have k2 := fun (W : World) (hz : Below w1.heap.size w1 W) => (kb.below hz kb.lt).cell 2
  have k3 := fun (W : World) (hz : Below w1.heap.size w1 W) => (kb.below hz kb.lt).cell 3
  have k4 := fun (W : World) (hz : Below w1.heap.size w1 W) => (kb.below hz kb.lt).cell 4
  have hz1 : Below w1.heap.size w1 w1 := Below.refl _ _
  obtain ⟨iE, hiE, hzE, hsE, hyE⟩ : ∃ i, Tryd.prog.info? 131 = some i ∧ i.zero = some (.agg #[.int .i64 0, .int .i64 0, .int .i64 0, .int .i64 0, .bool false]) ∧ i.size = 5 ∧ i.bytes = 40 := info_of (by kernel_rfl)
  obtain ⟨iL, hiL, zL, hzL, hcL, hsL, hyL⟩ : ∃ i, Tryd.prog.info? 111 = some i ∧ ∃ z, i.zero = some z ∧ z.cells.toList = [Value.slice none 0 0] ∧ i.size = 1 ∧ i.bytes = 24 := info_of_cells (by kernel_rfl)
  obtain ⟨br, ⟨lA, ln, lc, ls⟩, tk, ⟨mA, mn, mc, ms⟩, cap⟩ := c
  dsimp only at HISM hln4 HHP
  have hmk := fun W => run_make_rowN (P := Tryd.prog) 66 111 iL _ Tryd.underlying66 hiL hzL .i64 .i64 ln ln (Nat.le_refl _) (by rw [hyL]; omega) (by omega) W
  rw [hsL, Nat.mul_one, made_nil ln zL.cells hcL] at hmk
  have HMK := hide hmk
  have hbcm := hbm
  unfold maxLen at hbcm
  clear hb1 kb hp hw1 hc hcf hab b1 b2 b3 b4 his hisl hism hll hmk hzL hcL hsL hyL hiL hbr hbz hbl hbm
  unfold Cfg.cells at HW1 k0 k1 k2 k3 k4
  unfold Cfg.val at HMY HBR HSH ⊢
  dsimp only at HMY HBR HSH HW1 k0 k1 k2 k3 k4 ⊢
  simp only [List.getElem?_toArray, List.getElem?_cons_zero, List.getElem?_cons_succ] at k0 k1 k2 k3 k4
  obtain ⟨q, hq⟩ : ∃ q, q = is.length := ⟨_, rfl⟩
  rw [← hq] at hq4 HHP HSH
  have HQ := hide hq.symm
  have HND := hide hnd
  clear hq hnd
  go_enter Tryd.func42, Tryd.ntmps42
  go_upto_region 1 with fail
  rw [← unhide HP, ← unhide HW1]
  go_wp2_with fail
  refine (unhide HMY w1 (unhide HB1)).mono ?_
  rintro _ w2 ⟨rfl, hb2⟩
  have hz2 : Below w1.heap.size w1 w2 := hb2
  clear hb2
  go_wp2_with fail
  have hz3 : Below w1.heap.size w1 (w2.alloc (.cells #[.int .i64 a, .int .i64 b] 3)) := hz2.alloc hz2.size _
  refine (unhide HBR _ _ (Blk.new w2 _ _)).mono ?_
  rintro _ w3 ⟨rfl, hb3⟩
  have hz4 : Below w1.heap.size w1 w3 := hz3.trans (hb3.mono hz3.size)
  have HB3 := hide ((unhide HB1).trans (hz4.mono (unhide HB1).size))
  clear hb3 hz3 hz2
  go_wp2_with fail
  refine (unhide HSH _ (unhide HB3)).mono ?_
  rintro _ w5 ⟨v5, rfl, ho5, hb5⟩
  obtain ⟨A5, c5, rfl, _⟩ := own_slice ho5
  have hz5 : Below w1.heap.size w1 w5 := hz4.trans (hb5.mono hz4.size)
  have HO5 := hide (own_mono ho5 (unhide HB3).size)
  have HB5 := hide ((unhide HB3).trans (hb5.mono (unhide HB3).size))
  clear ho5 hb5 hz4
  go_upto_region 6 with fail
  obtain ⟨w6, hw6⟩ : ∃ w6, w6 = w5.alloc (.cells #[.int .i64 34] 3) := ⟨_, rfl⟩
  have hb6 : Below w5.heap.size w5 w6 := by rw [hw6]; exact (Below.refl _ _).alloc (Nat.le_refl _) _
  have k6 : Blk w6 w5.heap.size 3 #[.int .i64 34] := by rw [hw6]; exact Blk.new _ _ _
  have HRP := hide (repeat_many 34 (8 * q) w5.heap.size 1 w6 (by omega) k6.lt (k6.cell 0))
  have hmul : ((8 * q : Nat) : Int) = (q : Int) * 8 := by omega
  rw [hmul] at HRP
  have HW6 := hide hw6
  have HB6 := hide ((unhide HB5).trans (hb6.mono (unhide HB5).size))
  have hz6 : Below w1.heap.size w1 w6 := hz5.trans (hb6.mono hz5.size)
  have HO6 := hide (own_below' (unhide HO5) hb6)
  clear hw6 hb6 k6 hmul hz5 hz1
  go_wp2_with fail
  rw [← unhide HW6]
  refine (unhide HRP).mono ?_
  rintro _ w7 ⟨A7, c7, rfl, hr7, hb7⟩
  have HB7 := hide ((unhide HB6).trans (hb7.mono (unhide HB6).size))
  have hz7 : Below w1.heap.size w1 w7 := hz6.trans (hb7.mono hz6.size)
  have HO7 := hide (own_below' (unhide HO6) hb7)
  have HUP := hide (wireUnpack_any A7 (8 * q) c7 (List.replicate (8 * q) 34) bA bn bc bs w7 (List.length_replicate ..) (by omega) hr7 (unhide HBL) (by omega) hbn (((unhide HBRD).below (unhide HB7)).more (unhide HB7).size) (unhide HBZ))
  rw [show UnpPost (List.replicate (8 * q) 34) bs w7 = fun e w => ∃ v, e = .returned (.tuple #[v, .int .i64 (unpackP (List.replicate (8 * q) 34) bs).2]) ∧ w.ownsRow w7.heap.size 3 1 v (unpackP (List.replicate (8 * q) 34) bs).1.length ((unpackP (List.replicate (8 * q) 34) bs).1.map (.int .i64)) ∧ Below w7.heap.size w7 w from rfl, unp34 bs q hq4] at HUP
  clear hr7 hb7 hz6
  by_cases hlen : bs.length = 34 * q
  case neg =>
    have HR4 := hide (show heardP ⟨br, ⟨lA, ln, lc, ls⟩, tk, ⟨mA, mn, mc, ms⟩, cap⟩ a b bs = ([], 4) by rw [unhide HHP, if_pos hlen])
    rw [if_neg hlen] at HUP
    clear hlen
    go_wp2_with fail
    refine (unhide HUP).mono ?_
    rintro _ w8 ⟨v8, rfl, _, hb8'⟩
    have HB8 := hide ((unhide HB7).trans (hb8'.mono (unhide HB7).size))
    clear hb8'
    go_wp2_with fail
    go_ret2
    exact heaPost_nil (unhide HR4) (unhide HB8)
  have HHP2 := hide (show heardP ⟨br, ⟨lA, ln, lc, ls⟩, tk, ⟨mA, mn, mc, ms⟩, cap⟩ a b bs = if goodAll bs q = true then (rowsN bs is ln (8 * q), 0) else ([], 4) by rw [unhide HHP, if_neg (by rw [hlen]; simp)])
  rw [if_pos hlen] at HUP
  clear hlen HHP
  go_wp2_with fail
  refine (unhide HUP).mono ?_
  rintro _ w8 ⟨v8, rfl, ho8, hb8'⟩
  have HB8 := hide ((unhide HB7).trans (hb8'.mono (unhide HB7).size))
  have hz8 : Below w1.heap.size w1 w8 := hz7.trans (hb8'.mono hz7.size)
  have HO8 := hide (own_below' (unhide HO7) hb8')
  rw [List.length_map, List.length_range] at ho8
  obtain ⟨A8, c8, rfl, _⟩ := own_slice ho8
  have HV8 := hide (own_mono ho8 (unhide HB7).size)
  clear ho8 hb8' hz7
  go_upto_region 9 with fail
  have hk8 := unhide HMK w8
  obtain ⟨w9, hw9⟩ : ∃ w9, w9 = w8.alloc (.cells (nilRow ln) 111) := ⟨_, rfl⟩
  have hb9 : Below w8.heap.size w8 w9 := by rw [hw9]; exact (Below.refl _ _).alloc (Nat.le_refl _) _
  obtain ⟨g, hg⟩ : ∃ g, g = w8.heap.size := ⟨_, rfl⟩
  have k9 : Blk w9 g 111 (nilRow ln) := by rw [hw9, hg]; exact Blk.new _ _ _
  have HT9 := hide (OTb.new k9 (show w.heap.size ≤ g by rw [hg]; exact (unhide HB8).size))
  have HB9 := hide ((unhide HB8).trans (hb9.mono (unhide HB8).size))
  have hz9 : Below w1.heap.size w1 w9 := hz8.trans (hb9.mono hz8.size)
  have HO9 := hide (own_below' (unhide HO8) hb9)
  have HV9 := hide (own_below' (unhide HV8) hb9)
  have HG := hide hg
  have HW9 := hide hw9
  rw [← hw9, ← hg] at hk8
  clear hw9 hb9 k9 hg
  go_upto_region 10 with fail
  clear hk8 hz8 hz9
  go_wp2_with fail
  have HB9' := unhide HB9
  go_loopw [52] (fun j W => ∃ (k : Nat) (S : List EnR), k ≤ 8 * q ∧ j = .int .i64 k ∧ Hid (OTb W w.heap.size g S) ∧ Hid (S.map EnR.es = rowsN bs is ln k) ∧ Hid (∀ j, j < k → slotGood (j % 8) (slN bs j) = true) ∧ Hid (W.ownsRow w.heap.size 3 1 (.slice A5 q c5) q (is.map fun i => Value.int .i64 ((i : Nat) : Int))) ∧ Hid (W.ownsRow w.heap.size 3 1 (.slice A8 (8 * q) c8) (8 * q) (((List.range (8 * q)).map (fun k => ((slN bs k : Nat) : Int))).map (.int .i64))) ∧ Below w.heap.size w W) (fun j _ => 8 * q - (intOf j).toNat)
  case atStart => exact ⟨0, _, Nat.zero_le _, rfl, HT9, hide (by simp [rowsN, EnR.nil]), hide (fun j h => by omega), HO9, HV9, HB9'⟩
  case round =>
    obtain ⟨k, S, hk, rfl, HT, HSR, HGD, HI, HV, hz⟩ := hrel
    by_cases hlt : k < 8 * q
    · obtain ⟨bv, ov, z, rfl, _, hzv, hcv⟩ := at_num (Reads.of_own (unhide HV)) hlt
      obtain rfl : z = ((slN bs k : Nat) : Int) := by simp [hlt] at hzv; exact hzv.symm
      have hi : is[k / 8]? = some (is[k / 8]'(by rw [unhide HQ]; omega)) := List.getElem?_eq_getElem _
      generalize is[k / 8]'(by rw [unhide HQ]; omega) = i at hi
      have hiln := unhide HISM i (List.mem_of_getElem? hi)
      have HRN := hide (show rowsN bs is ln (k + 1) = if isN (slN bs k) then pushH (rowsN bs is ln k) i (decE (k % 8) (slN bs k)) else rowsN bs is ln k by
        rw [rowsN, List.getD_eq_getElem?_getD, hi]; rfl)
      obtain ⟨bi, oi, i', hA5, _, hi', hci⟩ := val_at (fun i : Nat => Value.int .i64 ((i : Nat) : Int)) (Reads.of_own (unhide HI)) (show k / 8 < q by omega)
      obtain rfl : i' = i := by rw [hi] at hi'; cases hi'; rfl
      subst hA5
      have HBAD := hide (show slotGood (k % 8) (slN bs k) = false → heardP ⟨br, ⟨lA, ln, lc, ls⟩, tk, ⟨mA, mn, mc, ms⟩, cap⟩ a b bs = ([], 4) from fun h => by
        rw [unhide HHP2, if_neg]
        intro hga
        have := List.all_eq_true.1 hga k (List.mem_range.2 hlt)
        rw [h] at this
        cases this)
      have HGD2 := hide (show slotGood (k % 8) (slN bs k) = true → ∀ j, j < k + 1 → slotGood (j % 8) (slN bs j) = true from fun h j hj => by
        rcases Nat.lt_or_ge j k with h1 | h1
        · exact unhide HGD j h1
        · obtain rfl : j = k := by omega
          exact h)
      have hnlt := slN_lt bs k
      obtain ⟨n, hn⟩ : ∃ n, n = slN bs k := ⟨_, rfl⟩
      rw [← hn] at hcv HRN HBAD HGD2 hnlt
      have hkq : (k : Int) < ((8 * q : Nat) : Int) := by omega
      have HEN := hide (show Calls Tryd.prog 61 #[.int .i64 ((k : Int) % 8), .int .i64 n] wr fun e w' => e = .returned (.tuple #[entV (decE (k % 8) n), .bool (decide (1 ≤ n / 4294967296))]) ∧ Below wr.heap.size wr w' by
        have h := frameEntry_any (k % 8) n wr (by omega) hnlt
        rw [show ((k : Int) % 8) = ((k % 8 : Nat) : Int) by omega]
        exact h)
      have hsi : S[i']? = some (S[i']'(by have h := congrArg List.length (unhide HSR); rw [List.length_map, rowsN_len] at h; omega)) := List.getElem?_eq_getElem _
      generalize S[i']'(by have h := congrArg List.length (unhide HSR); rw [List.length_map, rowsN_len] at h; omega) = r at hsi
      have hgd : (rowsN bs is ln k).getD i' [] = r.es := by rw [← unhide HSR, List.getD_eq_getElem?_getD, List.getElem?_map, hsi]; rfl
      obtain ⟨E, hE⟩ : ∃ E, E = decE (k % 8) n := ⟨_, rfl⟩
      have hEv : (0 ≤ E.value ∧ E.value ≤ 255) ∧ (0 ≤ E.time ∧ E.time < 2097152) ∧ (0 ≤ E.who ∧ E.who ≤ 7) := by rw [hE]; simp only [decE]; omega
      have HSL := hide (fun W => frameSlot_wide E W hEv.1 hEv.2.1 hEv.2.2)
      have hslt : slotN E < 17179869184 := by rw [hE]; exact slotN_dec_lt _ _
      have HSD := hide (show isN n = true → slotN E = n from fun h => by rw [hE]; exact slotN_dec _ n hnlt h)
      have HSN := hide (show isN n = false → 1 ≤ n / 4294967296 → slotN E ≠ n from fun h h1 => by rw [hE]; exact slotN_dec_ne _ n hnlt h h1)
      have HGOOD := hide (show slotGood (k % 8) n = (decide (n = 0) || (isN n && oneP E)) by rw [hE]; rfl)
      rw [← hE] at HEN HRN
      have hilt : (i' : Int) < (ln : Int) := by omega
      have hk8 : (k : Int) / 8 = ((k / 8 : Nat) : Int) := by omega
      have HK8 := hide hk8
      obtain ⟨ek, ev, et, ew, eg⟩ := E
      unfold entV at HEN HSL
      dsimp only at HEN HSL
      have HHI := hide hsi
      have HGDR := hide hgd
      have HINUM := hide hi
      clear hzv hi hi' hn hsi hgd hE hEv hk8 hiln HGD
      have g5 : ∀ W, Below wr.heap.size wr W → W.cell? ⟨bi, oi + k / 8, none⟩ = some (.int .i64 i') := fun W hW => Ext.cell ⟨W, hW⟩ hci
      have g6 : ∀ W, Below wr.heap.size wr W → W.cell? ⟨g, i', none⟩ = some r.val := fun W hW => Ext.cell ⟨W, hW⟩ ((unhide HT).cell (unhide HHI))
      obtain ⟨res, rA, rc⟩ := r
      unfold EnR.val at g6
      dsimp only at g6 HGDR
      have HROW := hide ((unhide HT).rows _ (List.mem_of_getElem? (unhide HHI)))
      have hrl : res.length ≤ 8 := by
        rw [← unhide HGDR, (rowsN_get bs is ln q (unhide HQ) (unhide HND) (unhide HISM) k hk).1 (k / 8) i' (unhide HINUM)]
        exact Nat.le_trans (decPart_len _ _ _) (Nat.min_le_left _ _)
      have HRL := hide hrl
      clear hci hrl
      by_cases h1 : 1 ≤ n / 4294967296
      · have hd1 : decide (1 ≤ n / 4294967296) = true := by simpa using h1
        rw [hd1] at HEN
        go_wp2_with fail
        refine (unhide HEN).mono ?_
        rintro _ wa ⟨rfl, hba⟩
        obtain ⟨wb, hwb⟩ : ∃ wb, wb = wa.alloc (.cells #[.int .i64 ek, .int .i64 ev, .int .i64 et, .int .i64 ew, .bool eg] 131) := ⟨_, rfl⟩
        have hbb : Below wr.heap.size wr wb := by rw [hwb]; exact hba.alloc hba.size _
        obtain ⟨pe, hpe⟩ : ∃ pe, pe = wa.heap.size := ⟨_, rfl⟩
        have kE : Blk wb pe 131 #[.int .i64 ek, .int .i64 ev, .int .i64 et, .int .i64 ew, .bool eg] := by rw [hwb, hpe]; exact Blk.new _ _ _
        have HWB := hide hwb
        have HPE := hide hpe
        have HPA := hide hba.size
        have HGP := hide (show g ≠ pe by have := (unhide HT).blk.lt; have := hba.size; omega)
        have HKE := hide kE
        clear hwb hpe kE hba
        go_upto_region 15 with fail
        rw [← unhide HWB, ← unhide HPE]
        go_upto_region 16 with fail
        have s0 := fun n : Ext wb => n.cell (v := .int .i64 ek) ((unhide HKE).cell 0)
        have s1 := fun n : Ext wb => n.cell (v := .int .i64 ev) ((unhide HKE).cell 1)
        have s2 := fun n : Ext wb => n.cell (v := .int .i64 et) ((unhide HKE).cell 2)
        have s3 := fun n : Ext wb => n.cell (v := .int .i64 ew) ((unhide HKE).cell 3)
        have s4 := fun n : Ext wb => n.cell (v := .bool eg) ((unhide HKE).cell 4)
        have s5 := fun n : Ext wb => n.cell (g6 wb hbb)
        refine wp_region_calm_full [0, 1] [2, 3, 4, 5, 6] [] [7] 8 [9, 10] (by kernel_rfl) (by kernel_rfl) (by intro c a d v w h; cases d <;> exact h) ?_
        simp only [pickOps, List.map_cons, List.map_nil, List.getD_cons_zero, List.getD_cons_succ]
        repeat (go_big_quiet_step (fail))
        refine wpQuiet_nil ?_
        repeat (go_big_quiet_step (fail))
        refine wpQuiet_nil (wpQuiet_nil ?_)
        rintro W ⟨nq, hW⟩
        have hWB : Below wr.heap.size wr W := hbb.trans ((hW ▸ nq.h : Below wb.heap.size wb W).mono hbb.size)
        have kW : Blk W pe 131 #[.int .i64 ek, .int .i64 ev, .int .i64 et, .int .i64 ew, .bool eg] := (unhide HKE).below (hW ▸ nq.h : Below wb.heap.size wb W) (unhide HKE).lt
        have hnq : Below wb.heap.size wb W := hW ▸ nq.h
        clear hW nq s0 s1 s2 s3 s4 s5
        simp only [wpAl]
        have HKW := hide kW
        have HTW := hide ((unhide HT).calm hWB)
        have HRW := hide (own_below' (unhide HROW) hWB)
        have hzW := hz.trans (hWB.mono hz.size)
        have hsW := hzW.size
        have HIW := hide (own_below' (unhide HI) hWB)
        have HVW := hide (own_below' (unhide HV) hWB)
        have hfg := (unhide HTW).blk.frozen i'
        have hmq : (res.length + 1) * 40 ≤ 140737488355328 := by have := unhide HRL; omega
        have hown : W.ownsRow w.heap.size 131 5 (.slice rA res.length rc) res.length (res.flatMap entCells) := unhide HRW
        have hpne : ∀ k', (Value.slice rA res.length rc).ownBlock = some k' → k' ≠ pe := fun k' hk' => by
          have := ((unhide HROW).lt k' hk').2
          have := unhide HPE
          have := unhide HPA
          omega
        have HOWN := hide hown
        have HPNE := hide hpne
        have HWS := hide hsW
        have HMQ := hide hmq
        clear kW hown hpne hmq
        go_wp2_with fail
        refine ⟨⟨⟨_, hnq.alloc hnq.size _⟩, rfl⟩, ?_⟩
        clear hnq
        have hsW' := hzW.size
        have HZW := hide hzW
        clear hzW
        go_wp2_with (first
          | (at_builtin; (refine wpList_append_new W rfl (.tmp 76) (.tmp 78) _ rfl w.heap.size 131 iE _ 5 40 Tryd.underlying111 hiE hzE hsE hyE rfl (by omega) (by omega) _ _ _ (unhide HOWN) rfl _ 1 _ rfl rfl rfl (by simp [Value.oneCell']) (unhide HMQ) hsW' ?_); intro g7 cap7 w7 hg7 hown7 hbel7 hgr7 hat7
             obtain ⟨u0, u1, hpe8, ht8, _, hb7⟩ := (unhide HTW).grow (E := ⟨ek, ev, et, ew, eg⟩) (unhide HHI) (unhide HKW) (unhide HPNE) (unhide HGP) hgr7 hown7 hat7
             have HPE8 := hide hpe8
             have v0 := fun u => (hpe8 u).cell 0
             have v1 := fun u => (hpe8 u).cell 1
             have v2 := fun u => (hpe8 u).cell 2
             have v3 := fun u => (hpe8 u).cell 3
             have v4 := fun u => (hpe8 u).cell 4
             have HT8 := hide ht8
             have HZ7 := hide (hbel7 w.heap.size w (Nat.le_refl _) (unhide HZW))
             have HI7 := hide (own_put_far (own_grown_far (unhide HIW) (unhide HOWN) (by decide) hgr7) hb7 (by decide) i' (.slice (some ⟨g7, 0, none⟩) (res.length + 1) cap7))
             have HV7 := hide (own_put_far (own_grown_far (unhide HVW) (unhide HOWN) (by decide) hgr7) hb7 (by decide) i' (.slice (some ⟨g7, 0, none⟩) (res.length + 1) cap7))
             clear hb7 hg7 hown7 hbel7 hgr7 hat7 hpe8 ht8))
        refine (unhide HSL _).mono ?_
        rintro _ wc ⟨rfl, hbc⟩
        obtain ⟨w8, hw8⟩ : ∃ w8, w8 = w7.setCell ⟨g, i', none⟩ (.slice (some ⟨g7, 0, none⟩) (res.length + 1) cap7) := ⟨_, rfl⟩
        have HT9 := unhide HT8
        have HP9 := unhide HPE8 (.slice (some ⟨g7, 0, none⟩) (res.length + 1) cap7)
        have HZ8 := (unhide HZ7).setCell (p := ⟨g, i', none⟩) (by have := (unhide HTW).low; exact this) (.slice (some ⟨g7, 0, none⟩) (res.length + 1) cap7)
        have HI8 := unhide HI7
        have HV8 := unhide HV7
        rw [← hw8] at HT9 HP9 HZ8 HI8 HV8 hbc
        have HTc := hide (HT9.calm hbc)
        have hPc := HP9.below hbc HP9.lt
        have HZc := hide (HZ8.trans (hbc.mono HZ8.size))
        have HIc := hide (own_below' HI8 hbc)
        have HVc := hide (own_below' HV8 hbc)
        have HPc := hide hPc
        have x0 := hPc.cell 0
        have x1 := hPc.cell 1
        have x2 := hPc.cell 2
        have x3 := hPc.cell 3
        have x4 := hPc.cell 4
        clear HT9 HP9 HZ8 HI8 HV8 hbc hPc hw8 HT8 HPE8 HZ7 HI7 HV7 v0 v1 v2 v3 v4 u0 u1
        by_cases hisn : isN n = true
        · have HME := hide (show ∀ W, Below wc.heap.size wc W → Calls Tryd.prog 53 #[.slice (some ⟨wc.heap.size, 0, none⟩) 1 1] (wc.alloc (.cells #[.int .i64 ek, .int .i64 ev, .int .i64 et, .int .i64 ew, .bool eg] 131)) fun e w' => e = .returned (.bool (oneP ⟨ek, ev, et, ew, eg⟩)) ∧ Below wc.heap.size wc w' from fun W hW => by
            have h := regMay_any (some ⟨wc.heap.size, 0, none⟩) 1 1 [⟨ek, ev, et, ew, eg⟩] _ (wc.alloc (.cells #[.int .i64 ek, .int .i64 ev, .int .i64 et, .int .i64 ew, .bool eg] 131)) rfl (by unfold maxLen; omega) (reads_at0 (Blk.new wc 131 _) 5 1 rfl) (Nat.le_refl _)
            rw [mayP_one] at h
            refine h.mono ?_
            rintro e w' ⟨rfl, h2⟩
            exact ⟨rfl, ((Below.refl _ _).alloc (Nat.le_refl _) _).trans (h2.mono (by simp))⟩)
          have hsl := unhide HSD hisn
          have hsl' : (((slotN ⟨ek, ev, et, ew, eg⟩ : Nat) : Int) != (n : Int)) = false := by rw [hsl]; simp
          go_wp2_with fail
          refine (unhide HME wc (Below.refl _ _)).mono ?_
          rintro _ wd ⟨rfl, hbd⟩
          have HTd := hide ((unhide HTc).calm hbd)
          have HZd := hide ((unhide HZc).trans (hbd.mono (unhide HZc).size))
          have HId := hide (own_below' (unhide HIc) hbd)
          have HVd := hide (own_below' (unhide HVc) hbd)
          clear hbd
          by_cases hone : oneP ⟨ek, ev, et, ew, eg⟩ = true
          · have HRN2 := hide (show rowsN bs is ln (k + 1) = pushH (rowsN bs is ln k) i' ⟨ek, ev, et, ew, eg⟩ by rw [unhide HRN, if_pos hisn])
            have HGK := hide (unhide HGD2 (by rw [unhide HGOOD, hisn, hone]; simp))
            have HGE := hide (show (rowsN bs is ln k).getD i' [] = res from unhide HGDR)
            rw [hone]
            clear hone hisn
            go_wp2_with fail
            go_roundw
            case rel => exact ⟨k + 1, _, by omega, by go_num, HTd, hide (by rw [unhide HRN2, pushH, unhide HGE, List.map_set, unhide HSR]), HGK, HId, HVd, unhide HZd⟩
            case measure => simp [intOf]; omega
          · have hone' : oneP ⟨ek, ev, et, ew, eg⟩ = false := by simpa using hone
            have HR4 := hide (unhide HBAD (by rw [unhide HGOOD, hisn, hone']; simp; intro hn; rw [hn] at h1; simp at h1))
            rw [hone']
            clear hone hone' hisn
            go_wp2_with fail
            go_ret2
            exact heaPost_nil (unhide HR4) (unhide HZd)
        · have hsl := unhide HSN (by simpa using hisn) h1
          have hsl' : (((slotN ⟨ek, ev, et, ew, eg⟩ : Nat) : Int) != (n : Int)) = true := by simp; omega
          have HR4 := hide (unhide HBAD (by rw [unhide HGOOD]; simp [hisn]; unfold isN at hisn; intro hn; rw [hn] at h1; simp at h1))
          go_wp2_with fail
          go_ret2
          exact heaPost_nil (unhide HR4) (unhide HZc)
      · have hd1 : decide (1 ≤ n / 4294967296) = false := by simpa using h1
        rw [hd1] at HEN
        by_cases h0 : n = 0
        · have hisn : isN n = false := by unfold isN; simp; omega
          have HRN2 := hide (show rowsN bs is ln (k + 1) = rowsN bs is ln k by rw [unhide HRN, if_neg (by rw [hisn]; simp)])
          have HGK := hide (unhide HGD2 (by rw [unhide HGOOD, h0]; rfl))
          clear hisn
          subst h0
          go_wp2_with fail
          refine (unhide HEN).mono ?_
          rintro _ wa ⟨rfl, hba⟩
          have hbb : Below wr.heap.size wr (wa.alloc (.cells #[.int .i64 ek, .int .i64 ev, .int .i64 et, .int .i64 ew, .bool eg] 131)) := hba.alloc hba.size _
          have HTB := hide ((unhide HT).calm hbb)
          have HIB := hide (own_below' (unhide HI) hbb)
          have HVB := hide (own_below' (unhide HV) hbb)
          have HZB := hide (hz.trans (hbb.mono hz.size))
          clear hba hbb
          go_wp2_with fail
          go_roundw
          case rel => exact ⟨k + 1, S, by omega, by go_num, HTB, hide (by rw [unhide HRN2]; exact unhide HSR), HGK, HIB, HVB, unhide HZB⟩
          case measure => simp [intOf]; omega
        · have hisn : isN n = false := by unfold isN; simp; omega
          have HR4 := hide (unhide HBAD (by rw [unhide HGOOD, hisn]; simpa using h0))
          have hn0 : (n != 0) = true := by simpa using h0
          have hn1 : ((n : Int) != 0) = true := by simp; omega
          clear hisn
          go_wp2_with fail
          refine (unhide HEN).mono ?_
          rintro _ wa ⟨rfl, hba⟩
          have HZB := hide (hz.trans ((hba.alloc hba.size (.cells #[.int .i64 ek, .int .i64 ev, .int .i64 et, .int .i64 ew, .bool eg] 131)).mono hz.size))
          clear hba
          go_wp2_with fail
          go_ret2
          exact heaPost_nil (unhide HR4) (unhide HZB)
    · obtain rfl : k = 8 * q := by omega
      have HFI := hide (show heardP ⟨br, ⟨lA, ln, lc, ls⟩, tk, ⟨mA, mn, mc, ms⟩, cap⟩ a b bs = (rowsN bs is ln (8 * q), 0) by
        rw [unhide HHP2, if_pos]
        unfold goodAll
        rw [List.all_eq_true]
        intro j hj
        exact unhide HGD j (List.mem_range.1 hj))
      have hSl : S.length = ln := by have h := congrArg List.length (unhide HSR); rw [List.length_map, rowsN_len] at h; exact h
      have HSL := hide hSl
      clear hSl
      go_wp2_with fail
      go_ret2
      unfold HeaPost
      rw [unhide HFI]
      refine ⟨⟨S, some ⟨g, 0, none⟩, ln⟩, by unfold TabR.val; dsimp only; rw [unhide HSL]; rfl, unhide HSR, ⟨?_, fun r hr => Reads.of_own ((unhide HT).rows r hr)⟩, hz, Or.inr ⟨g, (unhide HT).low, rfl, (unhide HT).blk⟩, (unhide HT).rows⟩
      dsimp only
      have h := reads_of_blk (unhide HT).blk (unhide HT).blk.lt
      simpa using h
end
section
open Go.RowKit
theorem heard_any (c : Cfg) (a b : Int) (bA : Option Addr) (bn bc : Nat) (bs : List Int) (B : Nat) (w : World) (hc : c.ok w B) (hB : B ≤ w.heap.size) (hbl : bs.length = bn) (hbn : bn ≤ bc) (hbm : bc ≤ maxLen) (hbr : Reads w B 1 bA bn (bs.map (.int .u8))) (hbz : ∀ z ∈ bs, 0 ≤ z ∧ z ≤ 255) :
    Calls Tryd.prog 42 #[c.val, .int .i64 a, .int .i64 b, .slice bA bn bc] w (HeaPost (heardP c a b bs) w) := by
  by_cases h : configP c = true ∧ (brOk c a = true ∧ brOk c b = true)
  · obtain ⟨h1, h2⟩ := h
    have ha : 0 ≤ a := by have := h2.1; unfold brOk at this; simp at this; omega
    have hb : 0 ≤ b := by have := h2.2; unfold brOk at this; simp at this; omega
    obtain ⟨a, rfl⟩ := Int.eq_ofNat_of_zero_le ha
    obtain ⟨b, rfl⟩ := Int.eq_ofNat_of_zero_le hb
    exact heard_good c a b bA bn bc bs B w hc hB hbl hbn hbm hbr hbz h1 h2
  · exact heard_early c a b bA bn bc bs B w hc hB h
theorem OTb.take {w w' : World} {base g pa : Nat} {S : List EnR} {cs : Array Value} (h : OTb w base g S) (hp : Blk w pa 3 cs) (ho : Only (fun k => k = pa) w w') : OTb w' base g S :=
  h.only ho (fun e => h.blk.ne_ hp (by decide) e) fun r hr k hk e => own_blk_ne (h.rows r hr) hp (by decide) (by rw [hk, e])
end
end Go.Proofs.YtbolcebmbpepdaaDoor
