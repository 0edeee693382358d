/- Contract of the reference's ownTally. Conditions: none beyond what the theorem states. -/
import Derived.Test.YtjhgnblakmhncaaTallyE
namespace Go.Proofs.Ytjhgnblakmhncaa
open Go.RowKit
set_option linter.unusedVariables false

set_option maxHeartbeats 1600000 in
theorem ownTally_any (t : Tly) (B : Nat) (w : World) (ht : t.ok w B) (hB : B ≤ w.heap.size) (hg : tallyP t.mv t.u.zs = true) :
    Calls Try.prog 24 #[t.val] w fun e w' => CopyPost w.heap.size t.mv t.u.zs e w w' := by
  obtain ⟨h1, h8, hu, hm, hrs⟩ := tallyP_good hg
  obtain ⟨A, m, c, rs, ⟨uA, n, uc, us⟩⟩ := t
  have ht1 := ht.1
  have ht2 := ht.2.1
  have HT := hide (ht.2.2.1.more hB)
  have HU := hide (ht.2.2.2.more hB)
  have hrl : rs.length = m := ht.2.2.1.1
  have hul : us.length = n := ht.2.2.2.1
  have hmn : m = n := by have h := hm; unfold Tly.mv at h; rw [List.length_map] at h; dsimp only at h; omega
  subst hmn
  have hu1 := ht.2.2.2.2.1
  have hu2 := ht.2.2.2.2.2.1
  unfold maxLen at ht2 hu2
  have HRL := hide (show ∀ r ∈ rs, r.zs.length = m from fun r hr => by have h := (hrs r.zs (List.mem_map.2 ⟨r, hr, rfl⟩)).1; exact h.trans hul)
  have HRS := hide hrl
  have HUL := hide hul
  have h1' : 1 ≤ m := by rw [← hul]; exact h1
  have h8' : m ≤ 8 := by rw [← hul]; exact h8
  unfold Tly.val Tly.mv
  dsimp only at ht1 ht2 hu1 hu2 ⊢
  obtain ⟨ir, hri, hrz0, hrz1, hrz2⟩ := row_info
  clear ht hg hu hm hrs hrl hul h1 h8
  obtain ⟨wx, hwx⟩ : ∃ wx, wx = (w.alloc (.cells #[.slice A m c, .slice uA m uc] 25)).alloc (.cells #[.slice none 0 0, .slice none 0 0] 25) := ⟨_, rfl⟩
  have hbx : Below w.heap.size w wx := by rw [hwx]; exact ((Below.refl _ _).alloc (Nat.le_refl _) _).alloc (by simp) _
  have hsx : wx.heap.size = w.heap.size + 2 := by rw [hwx]; simp
  have hnew : Blk wx w.heap.size 25 #[.slice A m c, .slice uA m uc] := by rw [hwx]; exact (Blk.new w 25 _).alloc _
  have hnew2 : Blk wx (w.heap.size + 1) 25 #[.slice none 0 0, .slice none 0 0] := by
    rw [hwx]
    have h := Blk.new (w.alloc (.cells #[.slice A m c, .slice uA m uc] 25)) 25 #[.slice none 0 0, .slice none 0 0]
    simpa using h
  have g0 : wx.cell? ⟨w.heap.size, 0, none⟩ = some (.slice A m c) := hnew.cell 0
  have g1 : wx.cell? ⟨w.heap.size, 1, none⟩ = some (.slice uA m uc) := hnew.cell 1
  have HUR := hide ((unhide HU).below hbx).2.2.2
  obtain ⟨i0, hi, hz0, hz1, hz2⟩ := int_info
  have h63 : 0 + m ≤ maxLen := by unfold maxLen; omega
  have hby : (0 + m) * 8 ≤ 140737488355328 := by omega
  have HUR' := hide (show Reads ((w.alloc (.cells #[.slice A m c, .slice uA m uc] 25)).alloc (.cells #[.slice none 0 0, .slice none 0 0] 25)) w.heap.size 1 uA m (us.map (.int .i64)) by rw [← hwx]; exact unhide HUR)
  have HWS := hide (show wx.heap.size ≤ ((w.alloc (.cells #[.slice A m c, .slice uA m uc] 25)).alloc (.cells #[.slice none 0 0, .slice none 0 0] 25)).heap.size by rw [← hwx]; exact Nat.le_refl _)
  have HSW := hide (show w.heap.size + 2 ≤ wx.heap.size by omega)
  have HSW1 := hide (show w.heap.size < wx.heap.size by omega)
  have HG0 := hide g0
  have HBX := hide hbx
  have HN := hide hnew
  have HN2 := hide hnew2
  have HWX := hide hwx
  have HSX := hide hsx
  clear hnew hnew2 hwx hbx hsx
  go_enter Try.func24, Try.ntmps24
  go_wp2_with (first
    | (at_builtin; (refine wpList_append_any _ rfl (.const (.slice none 0 0)) (.tmp 6) _ rfl wx.heap.size 3 i0 _ 1 8 Try.underlying23 hi hz0 hz1 hz2 rfl (by omega) _ 0 _ rfl (World.ownsRow_nil _ _ _ _) w.heap.size uA m uc (us.map (.int .i64)) rfl (unhide HUR') (ints_one .i64 us) h63 hby (unhide HWS) ?_); (intro v1 w1 hown0 hgr0 _); (rw [← unhide HWX] at hgr0); (have hown1 : w1.ownsRow wx.heap.size 3 1 v1 m (us.map (.int .i64)) := by simpa using hown0); (have hb1 : Below wx.heap.size wx w1 := below_of_none hgr0); (clear hown0 hgr0); (obtain ⟨u, hus, hul, rfl, hok1⟩ := orw_of_own hown1 h1'); (have hlt2 : w.heap.size + 1 < w1.heap.size := Nat.le_trans (unhide HSW) hb1.size); (have hlt1 : w.heap.size < w1.heap.size := Nat.lt_of_succ_lt hlt2); (have d0 : w1.cell? ⟨w.heap.size, 0, none⟩ = some (.slice A m c) := (hb1.cell (unhide HSW1)).trans (unhide HG0)); (have HBB := hide hb1); (have HOK := hide hok1); (have HUS := hide hus); (have HULN := hide hul); (clear hown1 hb1 hok1 hus hul)))
  have hb1 := unhide HBB
  have hok1 := unhide HOK
  have hb01 : Below w.heap.size w w1 := (unhide HBX).trans (hb1.mono (unhide HBX).size)
  have hM := Blk.new w1 25 #[.slice none 0 0, .slice (some ⟨u.g, 0, none⟩) m u.cap]
  have HM := hide hM
  have HL0 := hide (show ORs (w1.alloc (.cells #[.slice none 0 0, .slice (some ⟨u.g, 0, none⟩) m u.cap] 25)) w.heap.size [u] by
    have h := ORs.push (ORs.nil w1 w.heap.size) (r := u) ⟨Nat.le_trans (Nat.le_of_lt (unhide HSW1)) hok1.1, hok1.2⟩ (fun i s h => by simp at h)
    exact h.below ((Below.refl _ _).alloc (Nat.le_refl _) _))
  have HB01 := hide (hb01.alloc (hb01.size) (.cells #[.slice none 0 0, .slice (some ⟨u.g, 0, none⟩) m u.cap] 25))
  have HBN := hide ((((unhide HN).below hb1 (unhide HSW1))).alloc (.cells #[.slice none 0 0, .slice (some ⟨u.g, 0, none⟩) m u.cap] 25))
  have HBN2 := hide ((((unhide HN2).below hb1 (unhide HSW))).alloc (.cells #[.slice none 0 0, .slice (some ⟨u.g, 0, none⟩) m u.cap] 25))
  have HD0 := hide d0
  have HTX := hide ((unhide HT).below hb01)
  clear hok1 hM hb01 hb1 g0 g1 HSX HBX HN HN2
  generalize hM0 : w1.heap.size = M at *
  have HM0 := hide hM0
  clear hM0
  go_loopw [12] (fun i wr => ∃ (k : Nat) (v : Value) (L : List ORw), k ≤ m ∧ i = .int .i64 k ∧ M < wr.heap.size ∧ Hid (Blk wr M 25 #[v, .slice (some ⟨u.g, 0, none⟩) m u.cap]) ∧ Hid (OTab wr w.heap.size v L) ∧ Hid (ORs wr w.heap.size (u :: L)) ∧ Hid (L.map (·.zs) = (rs.map (·.zs)).take k) ∧ Hid (Below w.heap.size w wr) ∧ Hid (Blk wr (w.heap.size + 1) 25 #[.slice none 0 0, .slice none 0 0]) ∧ Hid (Blk wr w.heap.size 25 #[.slice A m c, .slice uA m uc])) (fun i _ => m - (intOf i).toNat)
  case atStart =>
    refine ⟨0, .slice none 0 0, [], Nat.zero_le _, rfl, ?_, HM, World.ownsRow_nil _ _ _ _, HL0, rfl, HB01, HBN2, HBN⟩
    have h := Blk.lt (unhide HM)
    exact h
  case round =>
    obtain ⟨k, v, L, hk, rfl, hMs, HBM, HOT, HOR, HLZ, HBW, HB2, HB1⟩ := hrel
    by_cases hlt : k < m
    · obtain ⟨b, o, r, rfl, hb, hz, hc, hok⟩ := at_tab ((unhide HT).below (unhide HBW)) hlt
      have hrm : r.zs.length = m := unhide HRL r (List.mem_of_getElem? hz)
      obtain ⟨rA, rn, rc, zs⟩ := r
      obtain ⟨q1, q2, q3, q4⟩ := hok
      dsimp only at hrm hc q1 q2 q3 q4
      obtain rfl : m = rn := by omega
      have hwb := (unhide HBW).size
      have HQ4 := hide (show Reads wr.drew w.heap.size 1 rA m (zs.map (.int .i64)) from q4)
      have hkm : (k : Int) < (m : Int) := by omega
      have hcb : wr.cell? ⟨w.heap.size, 0, none⟩ = some (.slice (some ⟨b, o, none⟩) m c) := (unhide HB1).cell 0
      have HQ1 := hide q1
      have c0 : wr.cell? ⟨M, 0, none⟩ = some v := (unhide HBM).cell 0
      have HZ := hide hz
      have hpos : 0 < m := by omega
      have hLk : L.length = k := by
        have h := congrArg List.length (unhide HLZ)
        rw [List.length_map, List.length_take, List.length_map, unhide HRS] at h
        omega
      have HLK := hide hLk
      have hLm : (L.length + 1) * 24 ≤ 140737488355328 := by omega
      clear hz q1 q4 hrm hLk
      go_wp2_with fail
      go_region_law (first
        | (refine step_append_any _ rfl (.const (.slice none 0 0)) (.tmp 21) _ rfl wr.heap.size 3 i0 _ 1 8 Try.underlying23 hi hz0 hz1 hz2 rfl (by omega) _ 0 _ rfl (World.ownsRow_nil _ _ _ _) w.heap.size rA m rc (zs.map (.int .i64)) rfl (unhide HQ4) (ints_one .i64 zs) h63 hby (Nat.le_refl _) ?_; intro v2 w2 hown2 hgr2 _; have hb2 := below_of_none hgr2; obtain ⟨r2, hz2, hl2, rfl, hok2⟩ := orw_of_own (show w2.ownsRow wr.heap.size 3 1 v2 m (zs.map (.int .i64)) by simpa using hown2) hpos; have hwr := (show Below wr.heap.size wr w2 from below_of_drew hb2); have c2 := (Blk.below (unhide HBM) hwr hMs).cell 0; have hM2 : M < w2.heap.size := Nat.lt_of_lt_of_le hMs hwr.size; have HK2 := hide (And.intro hwr (And.intro hz2 (And.intro hl2 hok2))); clear hown2 hgr2 hb2 hz2 hl2 hok2 hwr)
        | (refine step_append_new _ rfl (.tmp 16) (.tmp 23) _ rfl w.heap.size 23 ir _ 1 24 Try.underlying22 hri hrz0 hrz1 hrz2 rfl (by omega) (by omega) _ _ _ (own_below (unhide HOT) (unhide HK2).1) rfl _ 1 _ rfl rfl rfl (by simp [Value.oneCell']) hLm (Nat.le_trans hwb (unhide HK2).1.size) ?_; intro g cap w4 hg4 hown4 hbel4 hgr4 hat4; have hM4 := Blk.grown (Blk.below (unhide HBM) (unhide HK2).1 hMs) hgr4 (Ne.symm (own_blk_ne (unhide HOT) (unhide HBM) (by decide))); have e0 := hM4.cell 0; have e1 := hM4.frozen 0; have HK4 := hide (And.intro hg4 (And.intro hown4 (And.intro hbel4 (And.intro hgr4 hM4)))); clear hg4 hown4 hbel4 hgr4 hat4 hM4))
      all_goals
        obtain ⟨hwr, hz2, hl2, hok2⟩ := unhide HK2
        obtain ⟨hg4, hown4, hbel4, hgr4, hM4⟩ := unhide HK4
        have HN1 := hide (show Blk (w4.setCell ⟨M, 0, none⟩ (.slice (some ⟨g, 0, none⟩) (L.length + 1) cap)) M 25 #[.slice (some ⟨g, 0, none⟩) (L.length + 1) cap, .slice (some ⟨u.g, 0, none⟩) m u.cap] from hM4.set_ 0 _)
        have HN2 := hide (show OTab (w4.setCell ⟨M, 0, none⟩ (.slice (some ⟨g, 0, none⟩) (L.length + 1) cap)) w.heap.size (.slice (some ⟨g, 0, none⟩) (L.length + 1) cap) (L ++ [r2]) by
          unfold OTab
          rw [List.length_append, List.map_append, List.length_singleton]
          refine own_set_far (e := 23) ?_ hM4 (by decide) 0 _
          have h := hown4
          rw [show #[Value.slice (some ⟨r2.g, 0, none⟩) m r2.cap].toList = [r2].map ORw.val by rw [List.map_singleton, orw_val hl2]] at h
          exact h)
        have HN3 := hide (show ORs (w4.setCell ⟨M, 0, none⟩ (.slice (some ⟨g, 0, none⟩) (L.length + 1) cap)) w.heap.size (u :: (L ++ [r2])) by
          refine ORs.far ?_ hM4 (by decide) 0 _
          have h2 := ((unhide HOR).below hwr).push (r := r2) ⟨Nat.le_trans hwb hok2.1, hok2.2⟩ (fun i s hs => by
            have h3 := ((unhide HOR).1 i s hs).2.2.2.lt
            have h4 : wr.heap.size ≤ r2.g := hok2.1
            omega)
          exact h2.grown_hdr (own_below (unhide HOT) hwr) (by decide) hgr4)
        have HN4 := hide (show (L ++ [r2]).map (·.zs) = (rs.map (·.zs)).take (k + 1) by
          rw [take_snoc _ k zs (by rw [List.getElem?_map, unhide HZ]; rfl), List.map_append, ← unhide HLZ, List.map_singleton, hz2])
        have HN5 := hide ((hbel4 _ _ (Nat.le_refl _) ((unhide HBW).trans (hwr.mono hwb))).setCell (p := ⟨M, 0, none⟩) (show w.heap.size ≤ M by omega) (.slice (some ⟨g, 0, none⟩) (L.length + 1) cap))
        have HN6 := hide (Blk.far (p := ⟨M, 0, none⟩) (Blk.grown (Blk.below (unhide HB2) hwr (by omega)) hgr4 (Ne.symm (own_blk_ne (own_below (unhide HOT) hwr) (Blk.below (unhide HB2) hwr (by omega)) (by decide)))) (show w.heap.size + 1 ≠ M by omega) (.slice (some ⟨g, 0, none⟩) (L.length + 1) cap))
        have HN7 := hide (Blk.far (p := ⟨M, 0, none⟩) (Blk.grown (Blk.below (unhide HB1) hwr (by omega)) hgr4 (Ne.symm (own_blk_ne (own_below (unhide HOT) hwr) (Blk.below (unhide HB1) hwr (by omega)) (by decide)))) (show w.heap.size ≠ M by omega) (.slice (some ⟨g, 0, none⟩) (L.length + 1) cap))
        have hms := Blk.lt (unhide HN1)
        clear hwr hz2 hl2 hok2 hg4 hown4 hbel4 hgr4 hM4 e0 e1 c2
        go_wp2_with fail
        go_roundw
        case rel => exact ⟨k + 1, _, L ++ [r2], by omega, by go_num, hms, HN1, HN2, HN3, HN4, HN5, HN6, HN7⟩
        case measure => simp [intOf]; omega
    · obtain rfl : k = m := by omega
      have HF := hide (show L.map (·.zs) = rs.map (·.zs) by
        have h := unhide HLZ
        rw [List.take_of_length_le (by rw [List.length_map, unhide HRS]; exact Nat.le_refl _)] at h
        exact h)
      obtain ⟨A2, c2, hv, _, _, _⟩ := otab_tab (unhide HOT) ⟨fun i r hr => (unhide HOR).1 (i + 1) r (by simpa using hr), fun i j r s hr hs e => by have h := (unhide HOR).2 (i + 1) (j + 1) r s (by simpa using hr) (by simpa using hs) e; omega⟩
      subst hv
      have c0 : wr.cell? ⟨M, 0, none⟩ = some (.slice A2 L.length c2) := (unhide HBM).cell 0
      have c1 : wr.cell? ⟨M, 1, none⟩ = some (.slice (some ⟨u.g, 0, none⟩) k u.cap) := (unhide HBM).cell 1
      have d0 : wr.cell? ⟨w.heap.size + 1, 0, none⟩ = some (.slice none 0 0) := (unhide HB2).cell 0
      have d1 : wr.cell? ⟨w.heap.size + 1, 1, none⟩ = some (.slice none 0 0) := (unhide HB2).cell 1
      have e0 : wr.frozen? ⟨w.heap.size + 1, 0, none⟩ = false := (unhide HB2).frozen 0
      have e1 : wr.frozen? ⟨w.heap.size + 1, 1, none⟩ = false := (unhide HB2).frozen 1
      go_wp2_with fail
      have hz1 := ((unhide HB2).set_ 0 (.slice A2 L.length c2))
      have hz2 := hz1.set_ 1 (.slice (some ⟨u.g, 0, none⟩) k u.cap)
      have z0 := hz2.cell 0
      have z1 := hz2.cell 1
      refine bodyPost_ret (v := .agg #[.slice A2 L.length c2, .slice (some ⟨u.g, 0, none⟩) k u.cap]) (by simp [results, Try.results24, go_sem, z0, z1]) rfl ?_
      refine ⟨.slice A2 L.length c2, u, L, ?_, ?_, ?_, unhide HF, unhide HUS, ?_⟩
      · rw [orw_val (unhide HULN)]
      · exact own_set_far (own_set_far (unhide HOT) (unhide HB2) (by decide) 0 _) hz1 (by decide) 1 _
      · exact ((unhide HOR).far (unhide HB2) (by decide) 0 _).far hz1 (by decide) 1 _
      · exact ((unhide HBW).setCell (by show w.heap.size ≤ w.heap.size + 1; omega) _).setCell (by show w.heap.size ≤ w.heap.size + 1; omega) _
end Go.Proofs.Ytjhgnblakmhncaa
