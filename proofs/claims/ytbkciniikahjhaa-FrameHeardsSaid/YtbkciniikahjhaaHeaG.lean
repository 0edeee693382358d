/- frame.Heard; the reference's taking of bits and early ends; the numbers of a slot; a table's row grows. Conditions: none beyond what each theorem states. -/
import Derived.Test.YtbkciniikahjhaaHeaD
import Derived.Test.YtbkciniikahjhaaWireT
import Derived.Test.YtbkciniikahjhaaRumJ
namespace Go.Proofs.Ytbkciniikahjhaa
open Go.RowKit
set_option linter.unusedVariables false

theorem heard_any (c : Cfg) (a b : Int) (bA : Option Addr) (bn bc : Nat) (bs : List Int) (B : Nat) (w : World) (hc : c.ok w B) (hB : B ≤ w.heap.size) (hbl : bs.length = bn) (hbn : bn ≤ bc) (hbm : bc ≤ maxLen) (hbr : Reads w B 1 bA bn (bs.map (.int .u8))) (hbz : ∀ z ∈ bs, 0 ≤ z ∧ z ≤ 255) :
    Calls Try.prog 19 #[c.val, .int .i64 a, .int .i64 b, .slice bA bn bc] w (HeaPost (heardP c a b bs) w) := by
  by_cases h : configP c = true ∧ (brOk c a = true ∧ brOk c b = true)
  · obtain ⟨h1, h2⟩ := h
    have ha : 0 ≤ a := by have := h2.1; unfold brOk at this; simp at this; omega
    have hb : 0 ≤ b := by have := h2.2; unfold brOk at this; simp at this; omega
    obtain ⟨a, rfl⟩ := Int.eq_ofNat_of_zero_le ha
    obtain ⟨b, rfl⟩ := Int.eq_ofNat_of_zero_le hb
    exact heard_good c a b bA bn bc bs B w hc hB hbl hbn hbm hbr hbz h1 h2
  · exact heard_early c a b bA bn bc bs B w hc hB h
theorem fv_le34 (bs : List Int) (s i : Nat) (hi : i ≤ 34) : fv (bitB bs) s i ≤ 17179869184 :=
  Nat.le_of_lt (Nat.lt_of_lt_of_le (fv_lt _ (bitB_le bs) s i) (Nat.pow_le_pow_right (by omega) hi : 2 ^ i ≤ 2 ^ 34))
set_option maxRecDepth 100000 in
set_option maxHeartbeats 4000000 in
theorem refTake_any (bs : List Int) (bA : Option Addr) (bn bc pa gb at0 n : Nat) (B : Nat) (w : World) (hn : n ≤ 34) (hat : at0 ≤ 2000000) (hpa : Blk w pa 3 #[.int .i64 at0]) (hgb : Blk w gb 26 #[.slice bA bn bc]) (hB : B ≤ pa) (hBw : B ≤ w.heap.size) (hbl : bs.length = bn) (hbn : bn ≤ bc) (hbm : bc ≤ maxLen) (hbr : Reads w B 1 bA bn (bs.map (.int .u8))) (hbz : ∀ z ∈ bs, 0 ≤ z ∧ z ≤ 255) :
    Calls Try.prog 46 #[.int .i64 n, .pointer (some ⟨pa, 0, none⟩), .pointer (some ⟨gb, 0, none⟩)] w fun e w' => e = .returned (.int .i64 (fv (bitB bs) at0 n)) ∧ Only (fun k => k = pa) w w' ∧ Blk w' pa 3 #[.int .i64 ((at0 + n : Nat) : Int)] := by
  have hne : gb ≠ pa := hgb.ne_ hpa (by decide)
  have HGB := hide hgb
  have HNE := hide hne
  have HBR := hide hbr
  have HBZ := hide hbz
  have HBL := hide hbl
  have HO0 := hide (Only.refl (fun k => k = pa) w)
  have HP0 := hide hpa
  have HBB := hide (And.intro hB hBw)
  have hbcm := hbm
  unfold maxLen at hbcm
  clear hgb hne hbr hbz hbl hpa hbm hB hBw
  go_enter Try.func46, Try.ntmps46
  go_wp2_with fail
  go_loopw [0, 5] (fun x v wr => ∃ (i : Nat), i ≤ n ∧ x = .int .i64 ((n : Int) - i) ∧ v = .int .i64 (fv (bitB bs) at0 i) ∧ Hid (Only (fun k => k = pa) w wr) ∧ Hid (Blk wr pa 3 #[.int .i64 ((at0 + i : Nat) : Int)])) (fun x _ _ => (intOf x).toNat)
  case atStart => exact ⟨0, Nat.zero_le _, by go_num, rfl, HO0, HP0⟩
  case round =>
    obtain ⟨i, hi, rfl, rfl, HO, HP⟩ := hrel
    by_cases hlt : i < n
    · have hgt : (n : Int) - i > 0 := by omega
      have hfv := fv_le34 bs at0 i (by omega)
      have hstep : fv (bitB bs) at0 (i + 1) = 2 * fv (bitB bs) at0 i + bitB bs (at0 + i) := rfl
      obtain ⟨V, hV⟩ : ∃ V, V = fv (bitB bs) at0 i := ⟨_, rfl⟩
      obtain ⟨k, hk⟩ : ∃ k, k = at0 + i := ⟨_, rfl⟩
      rw [← hV] at hfv hstep ⊢
      rw [← hk] at hstep
      have HST := hide hstep
      have hkl : k ≤ 2000034 := by omega
      have c0 : wr.cell? ⟨pa, 0, none⟩ = some (.int .i64 k) := by rw [hk]; exact (unhide HP).cell 0
      have f0 : wr.frozen? ⟨pa, 0, none⟩ = false := (unhide HP).frozen 0
      have c1 : wr.cell? ⟨gb, 0, none⟩ = some (.slice bA bn bc) := ((unhide HGB).only (unhide HO) (unhide HNE)).cell 0
      have HK := hide hk
      have HV := hide hV
      clear hV hk hstep
      by_cases hin : k / 8 < bn
      · have hrd : Reads wr B 1 bA bn (bs.map (.int .u8)) := (unhide HBR).below ((unhide HO).to_below (fun x hx _ e => by have := (unhide HBB).1; omega) (unhide HBB).2)
        obtain ⟨bb, ob, z, hA, _, hz, hcz⟩ := val_at (fun z : Int => Value.int .u8 z) hrd hin
        obtain ⟨z, rfl⟩ := Int.eq_ofNat_of_zero_le (unhide HBZ z (List.mem_of_getElem? hz)).1
        have hz255 := (unhide HBZ _ (List.mem_of_getElem? hz)).2
        have hbit : bitB bs k = z / 2 ^ (7 - k % 8) % 2 := by unfold bitB; rw [List.getD_eq_getElem?_getD, hz]; rfl
        subst hA
        have hv := take_val z (7 - k % 8) (by omega) (by omega)
        have hlt8 : (k : Int) / 8 < (bn : Int) := by omega
        have hz2 : (0 : Int) ≤ (z : Int) / 2 ^ (7 - k % 8) ∧ (z : Int) / 2 ^ (7 - k % 8) ≤ 255 := by
          have e : ((z:Int) / 2 ^ (7 - k % 8)) = ((z / 2 ^ (7 - k % 8) : Nat) : Int) := by simp
          have hd : z / 2 ^ (7 - k % 8) ≤ z := Nat.div_le_self _ _
          rw [e]
          exact ⟨Int.natCast_nonneg _, by omega⟩
        go_upto_region 6 with fail
        go_quiet (fail)
        have hPn := (unhide HP).only (D := fun _ => False) ((Only.refl _ wr).drewN nq) (fun e => e)
        have d0 := hPn.cell 0
        have d1 := hPn.frozen 0
        have HOn := hide ((unhide HO).drewN nq)
        have HPn := hide hPn
        clear hPn c0 c1 f0
        go_wp2_with fail
        go_roundw
        case rel => exact ⟨i + 1, by omega, by go_num, by rw [show fv (bitB bs) at0 (i + 1) = 2 * V + bitB bs k from unhide HST, hbit]; go_num, hide (only_put (unhide HOn) 0 _), hide (by have h := fun u => (unhide HPn).set_ 0 u; have hk := unhide HK; rw [show ((at0 + (i + 1) : Nat) : Int) = (at0 : Int) + i + 1 by omega]; exact h _)⟩
        case measure => simp [intOf]; omega
      · have hbit : bitB bs k = 0 := by
          unfold bitB
          rw [List.getD_eq_getElem?_getD, List.getElem?_eq_none (by rw [unhide HBL]; omega)]
          simp
        have hlt8 : decide ((k : Int) / 8 < (bn : Int)) = false := by simp; omega
        go_wp2_with fail
        go_roundw
        case rel => exact ⟨i + 1, by omega, by go_num, by rw [show fv (bitB bs) at0 (i + 1) = 2 * V + bitB bs k from unhide HST, hbit]; go_num, hide (only_put (unhide HO) 0 _), hide (by have h := (unhide HP).set_ 0 (.int .i64 ((k : Int) + 1)); have hk := unhide HK; rw [show (at0 + (i + 1)) = k + 1 by omega]; exact h)⟩
        case measure => simp [intOf]; omega
    · obtain rfl : i = n := by omega
      have HOF := hide (And.intro (unhide HO) (unhide HP))
      have hgt : decide ((i : Int) - i > 0) = false := by simp
      go_wp2_with fail
      go_ret
      exact ⟨rfl, (unhide HOF).1, (unhide HOF).2⟩
set_option maxRecDepth 100000 in
set_option maxHeartbeats 4000000 in
theorem refHeard_early (c : Cfg) (a b : Int) (bA : Option Addr) (bn bc : Nat) (bs : List Int) (B : Nat) (w : World) (hc : c.ok w B) (hB : B ≤ w.heap.size) (hbad : ¬ (configP c = true ∧ (brOk c a = true ∧ brOk c b = true))) :
    Calls Try.prog 20 #[c.val, .int .i64 a, .int .i64 b, .slice bA bn bc] w (HeaPost (heardP c a b bs) w) := by
  have HMY := hide (fun W (hW : Below w.heap.size w W) => configMay_any c B W (hc.below (hW.mono hB)) (Nat.le_trans hB hW.size))
  have hP1 : configP c = false → heardP c a b bs = ([], 4) := fun h => by unfold heardP; rw [if_pos h]
  have hP2 : configP c = true → (brOk c a = false ∨ brOk c b = false) → heardP c a b bs = ([], 2) := fun h h2 => by unfold heardP; rw [if_neg (by rw [h]; simp), if_pos h2]
  have HFIN := hide (fun (x : Int) W (hW : Below w.heap.size w W) (hp : heardP c a b bs = ([], x)) => heaPost_nil (x := x) hp hW)
  generalize heardP c a b bs = R at *
  have HP1 := hide hP1
  have HP2 := hide hP2
  have HBA := hide hbad
  obtain ⟨w1, hw1⟩ : ∃ w1, w1 = (w.alloc (.cells c.cells.toArray 24)).alloc (.cells #[.slice bA bn bc] 26) := ⟨_, rfl⟩
  have hb0 : Below w.heap.size w (w.alloc (.cells c.cells.toArray 24)) := (Below.refl _ _).alloc (Nat.le_refl _) _
  have hb1 : Below w.heap.size w w1 := by rw [hw1]; exact hb0.alloc hb0.size _
  obtain ⟨p, hp⟩ : ∃ p, p = w.heap.size := ⟨_, rfl⟩
  have kb : Blk w1 p 24 c.cells.toArray := by
    rw [hw1, hp]
    exact (Blk.new w _ _).below ((Below.refl _ _).alloc (Nat.le_refl _) _) (Blk.new w _ _).lt
  have HB1 := hide hb1
  have HW1 := hide hw1
  have HP := hide hp
  have k0 := fun (W : World) (hz : Below w1.heap.size w1 W) => (kb.below hz kb.lt).cell 0
  have k1 := fun (W : World) (hz : Below w1.heap.size w1 W) => (kb.below hz kb.lt).cell 1
  have k2 := fun (W : World) (hz : Below w1.heap.size w1 W) => (kb.below hz kb.lt).cell 2
  have k3 := fun (W : World) (hz : Below w1.heap.size w1 W) => (kb.below hz kb.lt).cell 3
  have k4 := fun (W : World) (hz : Below w1.heap.size w1 W) => (kb.below hz kb.lt).cell 4
  have hz1 : Below w1.heap.size w1 w1 := Below.refl _ _
  clear hb0 hb1 kb hp hw1 hc hP1 hP2 hbad
  obtain ⟨br, ⟨lA, ln, lc, ls⟩, tk, ⟨mA, mn, mc, ms⟩, cap⟩ := c
  unfold Cfg.cells at HW1 k0 k1 k2 k3 k4
  unfold Cfg.val at HMY ⊢
  unfold brOk at HP2 HBA
  dsimp only at HMY HW1 HP2 HBA k0 k1 k2 k3 k4 ⊢
  simp only [List.getElem?_toArray, List.getElem?_cons_zero, List.getElem?_cons_succ] at k0 k1 k2 k3 k4
  cases hcf : configP ⟨br, ⟨lA, ln, lc, ls⟩, tk, ⟨mA, mn, mc, ms⟩, cap⟩
  · rw [hcf] at HMY HP1
    clear hcf
    go_enter Try.func20, Try.ntmps20
    go_upto_region 1 with fail
    rw [← unhide HP, ← unhide HW1]
    go_wp2_with fail
    refine (unhide HMY w1 (unhide HB1)).mono ?_
    rintro _ w2 ⟨rfl, hb2⟩
    have hz2 : Below w1.heap.size w1 w2 := hb2
    have HB2 := hide ((unhide HB1).trans (hb2.mono (unhide HB1).size))
    clear hb2
    go_wp2_with fail
    go_ret2
    exact unhide HFIN _ _ (unhide HB2) (unhide HP1 trivial)
  rw [hcf] at HMY HP2
  have HBA2 := hide (fun h => unhide HBA ⟨hcf, h⟩)
  clear hcf HBA
  by_cases d1 : a < 0
  · have HPX := hide (unhide HP2 rfl (Or.inl (by simp; omega)))
    clear HP2 HBA2
    go_enter Try.func20, Try.ntmps20
    go_upto_region 1 with fail
    rw [← unhide HP, ← unhide HW1]
    go_wp2_with fail
    refine (unhide HMY w1 (unhide HB1)).mono ?_
    rintro _ w2 ⟨rfl, hb2⟩
    have hz2 : Below w1.heap.size w1 w2 := hb2
    have HB2 := hide ((unhide HB1).trans (hb2.mono (unhide HB1).size))
    clear hb2
    go_wp2_with fail
    go_ret2
    exact unhide HFIN _ _ (unhide HB2) (unhide HPX)
  by_cases d2 : br ≤ a
  · have HPX := hide (unhide HP2 rfl (Or.inl (by simp; omega)))
    clear HP2 HBA2
    go_enter Try.func20, Try.ntmps20
    go_upto_region 1 with fail
    rw [← unhide HP, ← unhide HW1]
    go_wp2_with fail
    refine (unhide HMY w1 (unhide HB1)).mono ?_
    rintro _ w2 ⟨rfl, hb2⟩
    have hz2 : Below w1.heap.size w1 w2 := hb2
    have HB2 := hide ((unhide HB1).trans (hb2.mono (unhide HB1).size))
    clear hb2
    go_wp2_with fail
    go_ret2
    exact unhide HFIN _ _ (unhide HB2) (unhide HPX)
  by_cases d3 : b < 0
  · have HPX := hide (unhide HP2 rfl (Or.inr (by simp; omega)))
    clear HP2 HBA2
    go_enter Try.func20, Try.ntmps20
    go_upto_region 1 with fail
    rw [← unhide HP, ← unhide HW1]
    go_wp2_with fail
    refine (unhide HMY w1 (unhide HB1)).mono ?_
    rintro _ w2 ⟨rfl, hb2⟩
    have hz2 : Below w1.heap.size w1 w2 := hb2
    have HB2 := hide ((unhide HB1).trans (hb2.mono (unhide HB1).size))
    clear hb2
    go_wp2_with fail
    go_ret2
    exact unhide HFIN _ _ (unhide HB2) (unhide HPX)
  by_cases d4 : br ≤ b
  · have HPX := hide (unhide HP2 rfl (Or.inr (by simp; omega)))
    clear HP2 HBA2
    go_enter Try.func20, Try.ntmps20
    go_upto_region 1 with fail
    rw [← unhide HP, ← unhide HW1]
    go_wp2_with fail
    refine (unhide HMY w1 (unhide HB1)).mono ?_
    rintro _ w2 ⟨rfl, hb2⟩
    have hz2 : Below w1.heap.size w1 w2 := hb2
    have HB2 := hide ((unhide HB1).trans (hb2.mono (unhide HB1).size))
    clear hb2
    go_wp2_with fail
    go_ret2
    exact unhide HFIN _ _ (unhide HB2) (unhide HPX)
  exact absurd (show (decide (0 ≤ a) && decide (a < br)) = true ∧ (decide (0 ≤ b) && decide (b < br)) = true by simp; omega) (unhide HBA2)
theorem fv_split (f : Nat → Nat) (s a : Nat) : ∀ b, fv f s (a + b) = fv f s a * 2 ^ b + fv f (s + a) b
  | 0 => by simp [fv]
  | b + 1 => by
    rw [show a + (b + 1) = (a + b) + 1 by omega, fv, fv_split f s a b, fv, Nat.pow_succ, ← Nat.mul_assoc, Nat.add_assoc s a b]
    omega
theorem slot_parts (bs : List Int) (j : Nat) : ∃ L G V T H : Nat, fv (bitB bs) (34 * j) 1 = L ∧ fv (bitB bs) (34 * j + 1) 1 = G ∧ fv (bitB bs) (34 * j + 1 + 1) 8 = V ∧ fv (bitB bs) (34 * j + 1 + 1 + 8) 21 = T ∧ fv (bitB bs) (34 * j + 1 + 1 + 8 + 21) 3 = H ∧
    isN (slN bs j) = decide (L = 1) ∧ (L = 1 → ∀ x : Nat, decE x (slN bs j) = ⟨x, V, T, H, decide (G = 1)⟩) ∧ V ≤ 255 ∧ T ≤ 2097151 ∧ H ≤ 7 ∧ L ≤ 1 ∧ G ≤ 1 := by
  have h1 := fv_split (bitB bs) (34 * j) 1 33
  have h2 := fv_split (bitB bs) (34 * j + 1) 1 32
  have h3 := fv_split (bitB bs) (34 * j + 1 + 1) 8 24
  have h4 := fv_split (bitB bs) (34 * j + 1 + 1 + 8) 21 3
  have b1 := fv_lt (bitB bs) (bitB_le bs) (34 * j) 1
  have b2 := fv_lt (bitB bs) (bitB_le bs) (34 * j + 1) 1
  have b3 := fv_lt (bitB bs) (bitB_le bs) (34 * j + 1 + 1) 8
  have b4 := fv_lt (bitB bs) (bitB_le bs) (34 * j + 1 + 1 + 8) 21
  have b5 := fv_lt (bitB bs) (bitB_le bs) (34 * j + 1 + 1 + 8 + 21) 3
  refine ⟨_, _, _, _, _, rfl, rfl, rfl, rfl, rfl, ?_⟩
  have hs : slN bs j = fv (bitB bs) (34 * j) (1 + 33) := rfl
  rw [h1, show (33 : Nat) = 1 + 32 from rfl, h2, show (32 : Nat) = 8 + 24 from rfl, h3, show (24 : Nat) = 21 + 3 from rfl, h4] at hs
  generalize fv (bitB bs) (34 * j) 1 = L at *
  generalize fv (bitB bs) (34 * j + 1) 1 = G at *
  generalize fv (bitB bs) (34 * j + 1 + 1) 8 = V at *
  generalize fv (bitB bs) (34 * j + 1 + 1 + 8) 21 = T at *
  generalize fv (bitB bs) (34 * j + 1 + 1 + 8 + 21) 3 = H at *
  simp only [show (2:Nat) ^ (1 + (8 + (21 + 3))) = 8589934592 from rfl, show (2:Nat) ^ (8 + (21 + 3)) = 4294967296 from rfl, show (2:Nat) ^ (21 + 3) = 16777216 from rfl, show (2:Nat) ^ 3 = 8 from rfl, show (2:Nat) ^ 1 = 2 from rfl, show (2:Nat) ^ 8 = 256 from rfl, show (2:Nat) ^ 21 = 2097152 from rfl] at hs b1 b2 b3 b4 b5
  refine ⟨?_, fun hL x => ?_, by omega, by omega, by omega, by omega, by omega⟩
  · unfold isN
    rw [hs]
    congr 1
    rw [eq_iff_iff]
    omega
  · unfold decE
    rw [hs]
    have e1 : (L * 8589934592 + (G * 4294967296 + (V * 16777216 + (T * 8 + H)))) / 16777216 % 256 = V := by omega
    have e2 : (L * 8589934592 + (G * 4294967296 + (V * 16777216 + (T * 8 + H)))) / 8 % 2097152 = T := by omega
    have e3 : (L * 8589934592 + (G * 4294967296 + (V * 16777216 + (T * 8 + H)))) % 8 = H := by omega
    have e4 : decide ((L * 8589934592 + (G * 4294967296 + (V * 16777216 + (T * 8 + H)))) / 4294967296 = 3) = decide (G = 1) := by
      congr 1
      rw [eq_iff_iff]
      omega
    rw [e1, e2, e3, e4]
theorem OTb.grow0 {W w7 : World} {base g i g7 cap7 : Nat} {S : List EnR} {res : List Ent} {rA : Option Addr} {rc : Nat} {E : Ent} (hT : OTb W base g S) (hi : S[i]? = some ⟨res, rA, rc⟩) (hgr : W.grownBy w7 (Value.slice rA res.length rc).ownBlock)
    (hown : w7.ownsRow base 65 5 (.slice (some ⟨g7, 0, none⟩) (res.length + 1) cap7) (res.length + 1) (res.flatMap entCells ++ entCells E)) (hat : some g7 = (Value.slice rA res.length rc).ownBlock ∨ g7 = W.heap.size + 1) :
    w7.cell? ⟨g, i, none⟩ = some (.slice rA res.length rc) ∧ w7.frozen? ⟨g, i, none⟩ = false ∧ OTb (w7.setCell ⟨g, i, none⟩ (.slice (some ⟨g7, 0, none⟩) (res.length + 1) cap7)) base g (S.set i ⟨res ++ [E], some ⟨g7, 0, none⟩, cap7⟩) ∧ ∀ (pa : Nat) (t : TypeId) (cs : Array Value), Blk W pa t cs → t ≠ 65 → t ≠ 60 → ∀ u, Blk (w7.setCell ⟨g, i, none⟩ u) pa t cs := by
  have hO := hT.rows _ (List.mem_of_getElem? hi)
  have hbk := hT.blk.grown hgr (own_blk_ne' hO hT.blk (by decide))
  refine ⟨?_, hbk.frozen i, ?_, fun pa t cs hb h1 h2 u => ?_⟩
  · rw [hbk.cell]
    simp [hi, EnR.val]
  · have h := hT.push (r := ⟨res, rA, rc⟩) (r' := ⟨res ++ [E], some ⟨g7, 0, none⟩, cap7⟩) hi hgr (by simpa [EnR.val, List.flatMap_append] using hown) (by
      rcases hat with e | e
      · exact .inl (by simpa [EnR.val, Value.ownBlock] using e)
      · exact .inr ⟨g7, rfl, by omega⟩)
    simpa [EnR.val] using h
  · exact (hb.grown hgr (own_blk_ne' hO hb (fun e => h1 e.symm))).far (fun e : pa = g => hb.ne_ hT.blk h2 e) u
theorem OTb.take {w w' : World} {base g pa : Nat} {S : List EnR} {cs : Array Value} (h : OTb w base g S) (hp : Blk w pa 3 cs) (ho : Only (fun k => k = pa) w w') : OTb w' base g S :=
  h.only ho (fun e => h.blk.ne_ hp (by decide) e) fun r hr k hk e => own_blk_ne (h.rows r hr) hp (by decide) (by rw [hk, e])
end Go.Proofs.Ytbkciniikahjhaa
