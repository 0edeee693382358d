/- The law FrameHeards: sameLists on what reads alike; the walk. Conditions: none beyond what each theorem states. -/
import Derived.Test.YtbkciniikahjhaaHeaH
import Derived.Test.YtbkciniikahjhaaSameE
import Derived.Test.YtbkciniikahjhaaFrameF
import Derived.Test.YtbkciniikahjhaaOpen
namespace Go.Proofs.Ytbkciniikahjhaa
open Go.RowKit Go.ChangeShapes Go.WideShapes Go.Deep
set_option linter.unusedVariables false

theorem refHeard_any (c : Cfg) (a b : Int) (bA : Option Addr) (bn bc : Nat) (bs : List Int) (B : Nat) (w : World) (hc : c.ok w B) (hB : B ≤ w.heap.size) (hbl : bs.length = bn) (hbn : bn ≤ bc) (hbm : bc ≤ maxLen) (hbr : Reads w B 1 bA bn (bs.map (.int .u8))) (hbz : ∀ z ∈ bs, 0 ≤ z ∧ z ≤ 255) :
    Calls Try.prog 20 #[c.val, .int .i64 a, .int .i64 b, .slice bA bn bc] w (HeaPost (heardP c a b bs) w) := by
  by_cases h : configP c = true ∧ (brOk c a = true ∧ brOk c b = true)
  · obtain ⟨h1, h2⟩ := h
    have ha : 0 ≤ a := by have := h2.1; unfold brOk at this; simp at this; omega
    have hb : 0 ≤ b := by have := h2.2; unfold brOk at this; simp at this; omega
    obtain ⟨a, rfl⟩ := Int.eq_ofNat_of_zero_le ha
    obtain ⟨b, rfl⟩ := Int.eq_ofNat_of_zero_le hb
    exact refHeard_good c a b bA bn bc bs B w hc hB hbl hbn hbm hbr hbz h1 h2
  · exact refHeard_early c a b bA bn bc bs B w hc hB h
theorem heardP_small (c : Cfg) (a b : Int) (bs : List Int) : (heardP c a b bs).1.length ≤ 4 := by
  unfold heardP
  split
  · simp
  rename_i h
  split
  · simp
  split
  · simp
  split
  · dsimp only
    rw [rowsN_len]
    exact (config_br (by simpa using h)).2.2.1
  · simp
theorem heardP_rows (c : Cfg) (a b : Int) (bs : List Int) : ∀ l ∈ (heardP c a b bs).1, l.length ≤ 8 := by
  intro l hl
  unfold heardP at hl
  split at hl
  · cases hl
  split at hl
  · cases hl
  split at hl
  · cases hl
  split at hl
  · dsimp only at hl
    obtain ⟨i, hi⟩ := List.mem_iff_getElem?.1 hl
    obtain ⟨is, his⟩ : ∃ is, is = bothGo a.toNat b.toNat c.la.zs 0 := ⟨_, rfl⟩
    rw [← his] at hi
    have hnd : is.Nodup := by rw [his]; exact bothGo_nodup _ _ _ _
    have hlt : ∀ i ∈ is, i < c.la.zs.length := fun i hi => by
      rw [his] at hi
      have := bothGo_mem _ _ _ _ i hi
      omega
    obtain ⟨h1, h2⟩ := rowsN_get bs is c.la.zs.length is.length rfl hnd hlt (8 * is.length) (Nat.le_refl _)
    have hg : (rowsN bs is c.la.zs.length (8 * is.length)).getD i [] = l := by rw [List.getD_eq_getElem?_getD, hi]; rfl
    by_cases hin : i ∈ is
    · obtain ⟨p, hp⟩ := List.mem_iff_getElem?.1 hin
      rw [← hg, h1 p i hp]
      exact Nat.le_trans (decPart_len _ _ _) (Nat.min_le_left _ _)
    · rw [← hg, h2 i hin]; simp
  · cases hl
set_option maxRecDepth 100000 in
set_option maxHeartbeats 2000000 in
theorem sameLists_any (t t' : TabR) (B : Nat) (w : World) (hr : TabRd w B t) (hr' : TabRd w B t') (he : t'.es = t.es) (hB : B ≤ w.heap.size) (hn : t.es.length ≤ 1000) (hm : ∀ r ∈ t.rs, r.es.length ≤ maxLen) :
    Calls Try.prog 21 #[t.val, t'.val] w fun e w' => e = .returned (.bool true) ∧ Below w.heap.size w w' := by
  obtain ⟨rs, tA, tc⟩ := t
  obtain ⟨rs', tA', tc'⟩ := t'
  unfold TabR.val
  unfold TabR.es at he hn
  dsimp only at he hn hm ⊢
  obtain ⟨n, hnn⟩ : ∃ n, n = rs.length := ⟨_, rfl⟩
  have hn' : rs'.length = n := by have := congrArg List.length he; simp at this; omega
  have hn1 : n ≤ 1000 := by simp at hn; omega
  have HT1 := hide (hr.more hB)
  have HT2 := hide (hr'.more hB)
  unfold TabRd at HT1 HT2
  dsimp only at HT1 HT2
  rw [← hnn] at HT1 ⊢
  rw [hn'] at HT2 ⊢
  have HES := hide he.symm
  have HM := hide hm
  clear hr hr' he hn hnn hn' hm
  have hnI : (n : Int) ≤ 1000 := by omega
  go_enter Try.func21, Try.ntmps21
  go_wp2_with fail
  go_loopw [5] (fun i wr => ∃ l : Nat, l ≤ n ∧ i = .int .i64 l ∧ Below w.heap.size w wr) (fun i _ => n - (intOf i).toNat)
  case atStart => exact ⟨0, Nat.zero_le _, rfl, Below.refl _ _⟩
  case round =>
    obtain ⟨l, hl, rfl, hzl⟩ := hrel
    by_cases hlt2 : l < n
    · obtain ⟨d, p, r, rfl, hdl, hrl, hd⟩ := val_at EnR.val ((unhide HT1).1.below hzl) hlt2
      obtain ⟨d', p', r', rfl, hdl', hrl', hd'⟩ := val_at EnR.val ((unhide HT2).1.below hzl) hlt2
      have her : r.es = r'.es := by
        have h1 : (rs.map EnR.es)[l]? = some r.es := by simp [hrl]
        have h2 : (rs'.map EnR.es)[l]? = some r'.es := by simp [hrl']
        rw [unhide HES, h2] at h1
        injection h1 with h1
        exact h1.symm
      have hr8 := unhide HM r (List.mem_of_getElem? hrl)
      have h5 := (unhide HT1).2 r (List.mem_of_getElem? hrl)
      have h5' := (unhide HT2).2 r' (List.mem_of_getElem? hrl')
      obtain ⟨es, rA, rc⟩ := r
      obtain ⟨es', rA', rc'⟩ := r'
      unfold EnR.val at hd hd'
      dsimp only at her hr8 h5 h5' hd hd'
      subst her
      have HSE := hide (fun (W : World) (hW : Below w.heap.size w W) => sameEntries_any rA rA' es.length rc rc' es w.heap.size W rfl (by unfold maxLen at hr8; omega) (h5.below hW) (h5'.below hW))
      generalize es.length = q at hd hd' HSE hr8
      have f3 := fun n_1 : Ext wr => n_1.cell hd
      have f4 := fun n_1 : Ext wr => n_1.cell hd'
      have hln : (l : Int) < (n : Int) := by omega
      clear hrl hrl' h5 h5' hd hd' hr8
      go_upto_region 6 with fail
      refine wp_region_calm (by kernel_rfl) (by kernel_rfl) ?_
      repeat (go_big_quiet_step ((go_at_call 48; exact calm_call ((unhide HSE _ (hzl.trans (Below.mono (Ext.h _) hzl.size))).mono fun _ _ ⟨he, nq, hw⟩ => ⟨he, hw ▸ below_drewN (Below.refl _ _) nq⟩))))
      refine wpQuiet_nil ?_
      rintro W ⟨nq, hW⟩
      have hW2 : Below w.heap.size w W := hzl.trans ((hW ▸ nq.h : Below wr.heap.size wr W).mono hzl.size)
      clear hW nq f3 f4
      go_wp2_with fail
      go_roundw
      case rel => exact ⟨l + 1, by omega, by go_num, hW2⟩
      case measure => simp [intOf]; omega
    · obtain rfl : l = n := by omega
      go_wp2_with fail
      go_ret
      exact ⟨rfl, hzl⟩
set_option maxRecDepth 100000 in
set_option maxHeartbeats 2000000 in
theorem walk_FrameHeards (c : Cfg) (a b : Int) (A : Option Addr) (n cc : Nat) (bs : List Int) (w : World) (hc : c.ok w w.heap.size) (_wa : (Lit.int .i64 a).wf = true) (_wb : (Lit.int .i64 b).wf = true) (hnc : n ≤ cc) (hcm : cc ≤ maxLen) (hl : bs.length = n) (hr : Reads w w.heap.size 1 A n (bs.map (.int .u8))) (hw8 : ∀ z ∈ bs, (Lit.int .u8 z).wf = true) :
    Calls Try.prog 7 #[c.val, .int .i64 a, .int .i64 b, .slice A n cc] w fun e w' => e = .returned (.bool true) ∧ Below w.heap.size w w' := by
  have hz8 : ∀ z ∈ bs, 0 ≤ z ∧ z ≤ 255 := fun z hz => u8_bounds (hw8 z hz)
  have H1 := hide (fun W (hW : Below w.heap.size w W) => heard_any c a b A n cc bs w.heap.size W (hc.below hW) hW.size hl hnc hcm (hr.below hW) hz8)
  have H2 := hide (fun W (hW : Below w.heap.size w W) => refHeard_any c a b A n cc bs w.heap.size W (hc.below hW) hW.size hl hnc hcm (hr.below hW) hz8)
  have HS1 := hide (heardP_small c a b bs)
  have HS2 := hide (heardP_rows c a b bs)
  unfold HeaPost at H1 H2
  generalize heardP c a b bs = R at *
  obtain ⟨rb, rc⟩ := R
  dsimp only at H1 H2 HS1 HS2
  obtain ⟨w1, hw1⟩ : ∃ w1, w1 = w.alloc (.cells c.cells.toArray 24) := ⟨_, rfl⟩
  have hb1 : Below w.heap.size w w1 := by rw [hw1]; exact (Below.refl _ _).alloc (Nat.le_refl _) _
  obtain ⟨p, hp⟩ : ∃ p, p = w.heap.size := ⟨_, rfl⟩
  have kb : Blk w1 p 24 c.cells.toArray := by rw [hw1, hp]; exact Blk.new w _ _
  have HB1 := hide hb1
  have HW1 := hide hw1
  have HP := hide hp
  have k0 := fun (W : World) (hz : Below w1.heap.size w1 W) => (kb.below hz kb.lt).cell 0
  have k1 := fun (W : World) (hz : Below w1.heap.size w1 W) => (kb.below hz kb.lt).cell 1
  have k2 := fun (W : World) (hz : Below w1.heap.size w1 W) => (kb.below hz kb.lt).cell 2
  have k3 := fun (W : World) (hz : Below w1.heap.size w1 W) => (kb.below hz kb.lt).cell 3
  have k4 := fun (W : World) (hz : Below w1.heap.size w1 W) => (kb.below hz kb.lt).cell 4
  have hz1 : Below w1.heap.size w1 w1 := Below.refl _ _
  clear hb1 kb hp hw1 hc hl hr hw8 hz8 hnc hcm
  obtain ⟨br, ⟨lA, ln, lc, ls⟩, tk, ⟨mA, mn, mc, ms⟩, cap⟩ := c
  unfold Cfg.cells at HW1 k0 k1 k2 k3 k4
  unfold Cfg.val at H1 H2 ⊢
  dsimp only at H1 H2 HW1 k0 k1 k2 k3 k4 ⊢
  simp only [List.getElem?_toArray, List.getElem?_cons_zero, List.getElem?_cons_succ] at k0 k1 k2 k3 k4
  go_enter Try.func7, Try.ntmps7
  go_upto_region 1 with fail
  rw [← unhide HP, ← unhide HW1]
  go_wp2_with fail
  refine (unhide H1 w1 (unhide HB1)).mono ?_
  rintro _ w2 ⟨t2, rfl, hte2, ht2, hb2⟩
  have hz2 : Below w1.heap.size w1 w2 := hb2
  have HT2 := hide ht2
  have HE2 := hide hte2
  have HB2 := hide ((unhide HB1).trans (hb2.mono (unhide HB1).size))
  clear ht2 hb2 hte2
  go_wp2_with fail
  refine (unhide H2 w2 (unhide HB2)).mono ?_
  rintro _ w3 ⟨t3, rfl, hte3, ht3, hb3⟩
  have HB3 := hide ((unhide HB2).trans (hb3.mono (unhide HB2).size))
  have hee : t2.es = rb := unhide HE2
  have hee3 : t3.es = rb := hte3
  have HSB := hide (sameLists_any t2 t3 w3.heap.size w3 (((unhide HT2).below hb3).more hb3.size) ht3 (by rw [hee, hee3]) (Nat.le_refl _) (by rw [hee]; exact Nat.le_trans (unhide HS1) (by omega)) (fun r hr => by
    have h := unhide HS2 r.es (by rw [← hee]; exact List.mem_map.2 ⟨r, hr, rfl⟩)
    unfold maxLen
    omega))
  clear ht3 hb3 hte3 hee hee3
  go_wp2_with fail
  refine (unhide HSB).mono ?_
  rintro _ w4 ⟨rfl, hb4⟩
  have HB4 := hide ((unhide HB3).trans (hb4.mono (unhide HB3).size))
  clear hb4
  go_wp2_with fail
  go_ret
  exact ⟨rfl, unhide HB4⟩
end Go.Proofs.Ytbkciniikahjhaa
