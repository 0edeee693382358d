/- Contract of sameTally on two tallies that read alike; the walk of the law on tally.Merge. Conditions: none beyond what each theorem states. -/
import Derived.Test.YtjhgnblakmhncaaTallyI
import Derived.Test.YtjhgnblakmhncaaTabSame
namespace Go.Proofs.Ytjhgnblakmhncaa
open Go.RowKit
set_option linter.unusedVariables false

theorem sameTally_any (t t' : Tly) (w : World) (ht : t.ok w w.heap.size) (ht' : t'.ok w w.heap.size) (hm : t.mv = t'.mv) (hu : t.u.zs = t'.u.zs) :
    Calls Try.prog 13 #[t.val, t'.val] w fun e w' => e = .returned (.bool true) ∧ Below w.heap.size w w' := by
  obtain ⟨A, m, c, rs, ⟨uA, n, uc, us⟩⟩ := t
  obtain ⟨A', m', c', rs', ⟨uA', n', uc', us'⟩⟩ := t'
  dsimp only at hu
  subst hu
  have hl1 : us.length = n := ht.2.2.2.1
  have hl2 : us.length = n' := ht'.2.2.2.1
  obtain rfl : n = n' := by omega
  have hm1 : rs.length = m := ht.2.2.1.1
  have hm2 : rs'.length = m' := ht'.2.2.1.1
  obtain rfl : m = m' := by
    have h := congrArg List.length hm
    unfold Tly.mv at h
    rw [List.length_map, List.length_map] at h
    dsimp only at h
    omega
  have hn : n ≤ 9223372036854775807 := by have h1 := ht.2.2.2.2.1; have h2 := ht.2.2.2.2.2.1; unfold maxLen at h2; dsimp only at h1 h2; omega
  have hmm : m ≤ 9223372036854775807 := by have h1 := ht.1; have h2 := ht.2.1; unfold maxLen at h2; dsimp only at h1 h2; omega
  obtain ⟨wx, hwx⟩ : ∃ wx, wx = (w.alloc (.cells #[.slice A m c, .slice uA n uc] 25)).alloc (.cells #[.slice A' m c', .slice uA' n uc'] 25) := ⟨_, rfl⟩
  have hbx : Below w.heap.size w wx := by rw [hwx]; exact ((Below.refl _ _).alloc (Nat.le_refl _) _).alloc (by simp) _
  have k0 : Blk wx w.heap.size 25 #[.slice A m c, .slice uA n uc] := by rw [hwx]; exact (Blk.new w 25 _).alloc _
  have k1 : Blk wx (w.heap.size + 1) 25 #[.slice A' m c', .slice uA' n uc'] := by
    rw [hwx]
    have h := Blk.new (w.alloc (.cells #[.slice A m c, .slice uA n uc] 25)) 25 #[.slice A' m c', .slice uA' n uc']
    simpa using h
  have HS := hide (sameInts_row uA uA' n uc uc' us w.heap.size wx hl1 hn (ht.2.2.2.2.2.2.below hbx) (ht'.2.2.2.2.2.2.below hbx))
  have HT := hide (fun k => sameTable_any A A' m c c' rs rs' w.heap.size (wx.drewN k) hmm ((ht.2.2.1.below hbx).drewN k) ((ht'.2.2.1.below hbx).drewN k) hm)
  have HBX := hide hbx
  have HWX := hide hwx
  have HK0 := hide k0
  have HK1 := hide k1
  unfold Tly.val
  dsimp only
  clear ht ht' hm hl1 hl2 hm1 hm2 hbx hwx k0 k1
  have c0 := (unhide HK0).cell 0
  have c1 := (unhide HK0).cell 1
  have d0 := (unhide HK1).cell 0
  have d1 := (unhide HK1).cell 1
  go_enter Try.func13, Try.ntmps13
  go_wp2_with fail
  rw [← unhide HWX]
  refine (unhide HS).mono ?_
  rintro _ w2 ⟨rfl, q, rfl⟩
  go_wp2_with fail
  refine (unhide HT q).mono ?_
  rintro _ w3 ⟨rfl, q2, rfl⟩
  go_wp2_with fail
  go_ret
  exact ⟨rfl, by first | exact below_drewN (unhide HBX) _ | exact below_drewN (below_drewN (unhide HBX) _) _⟩

set_option maxHeartbeats 800000 in
theorem walk_TallyMerges (a b : Tly) (w : World) (ha : a.ok w w.heap.size) (hb : b.ok w w.heap.size) :
    Calls Try.prog 5 #[a.val, b.val] w fun e w' => e = .returned (.bool true) ∧ Below w.heap.size w w' := by
  have H1 := hide (fun W (hW : Below w.heap.size w W) => tallyMerge_any a b w.heap.size W (ha.below hW) (hb.below hW) hW.size)
  have H2 := hide (fun W (hW : Below w.heap.size w W) => tallyMerge_ref a b w.heap.size W (ha.below hW) (hb.below hW) hW.size)
  clear ha hb
  generalize mergeP a.mv a.u.zs b.mv b.u.zs = r at H1 H2
  obtain ⟨A, m, c, rs, ⟨uA, n, uc, us⟩⟩ := a
  obtain ⟨A', m', c', rs', ⟨uA', n', uc', us'⟩⟩ := b
  unfold Tly.val at H1 H2 ⊢
  dsimp only at H1 H2 ⊢
  obtain ⟨wx, hwx⟩ : ∃ wx, wx = (w.alloc (.cells #[.slice A m c, .slice uA n uc] 25)).alloc (.cells #[.slice A' m' c', .slice uA' n' uc'] 25) := ⟨_, rfl⟩
  have hbx : Below w.heap.size w wx := by rw [hwx]; exact ((Below.refl _ _).alloc (Nat.le_refl _) _).alloc (by simp) _
  have k0 : Blk wx w.heap.size 25 #[.slice A m c, .slice uA n uc] := by rw [hwx]; exact (Blk.new w 25 _).alloc _
  have k1 : Blk wx (w.heap.size + 1) 25 #[.slice A' m' c', .slice uA' n' uc'] := by
    rw [hwx]
    have h := Blk.new (w.alloc (.cells #[.slice A m c, .slice uA n uc] 25)) 25 #[.slice A' m' c', .slice uA' n' uc']
    simpa using h
  have HSX := hide (show w.heap.size + 2 ≤ wx.heap.size by rw [hwx]; simp)
  have HBX := hide hbx
  have HWX := hide hwx
  have HK0 := hide k0
  have HK1 := hide k1
  clear hbx hwx k0 k1
  have c0 := (unhide HK0).cell 0
  have c1 := (unhide HK0).cell 1
  have d0 := (unhide HK1).cell 0
  have d1 := (unhide HK1).cell 1
  go_enter Try.func5, Try.ntmps5
  go_wp2_with fail
  rw [← unhide HWX]
  refine (unhide H1 wx (unhide HBX)).mono ?_
  rintro _ w1 ⟨t1, rfl, hok1, hm1, hu1, hb1'⟩
  have hb1 : Below wx.heap.size wx w1 := hb1'
  obtain ⟨A1, m1, c1', rs1, ⟨uA1, n1, uc1, us1⟩⟩ := t1
  unfold Tly.val
  dsimp only at hu1 ⊢
  have hs1 := hb1.size
  have hlt0 : w.heap.size < w1.heap.size := by have := unhide HSX; omega
  have hlt1 : w.heap.size + 1 < w1.heap.size := by have := unhide HSX; omega
  have e0 := (Blk.below (unhide HK0) hb1 (by have := unhide HSX; omega)).cell 0
  have e1 := (Blk.below (unhide HK0) hb1 (by have := unhide HSX; omega)).cell 1
  have f0 := (Blk.below (unhide HK1) hb1 (by have := unhide HSX; omega)).cell 0
  have f1 := (Blk.below (unhide HK1) hb1 (by have := unhide HSX; omega)).cell 1
  have HO1 := hide hok1
  have HM1 := hide hm1
  have HU1 := hide hu1
  have HB1 := hide ((unhide HBX).trans (hb1.mono (unhide HBX).size))
  clear hok1 hm1 hu1 hb1 hb1' c0 c1 d0 d1
  go_wp2_with fail
  have HX := hide (Blk.new w1 25 #[.slice A1 m1 c1', .slice uA1 n1 uc1])
  have HB2 := hide ((unhide HB1).alloc (unhide HB1).size (.cells #[.slice A1 m1 c1', .slice uA1 n1 uc1] 25))
  have HO2 := hide ((unhide HO1).below ((Below.refl _ _).alloc (Nat.le_refl _) (.cells #[.slice A1 m1 c1', .slice uA1 n1 uc1] 25)))
  have HS2 := hide (show w1.heap.size < (w1.alloc (.cells #[.slice A1 m1 c1', .slice uA1 n1 uc1] 25)).heap.size by simp)
  generalize w1.alloc (.cells #[.slice A1 m1 c1', .slice uA1 n1 uc1] 25) = w2 at HX HB2 HO2 HS2 ⊢
  refine (unhide H2 w2 (unhide HB2)).mono ?_
  rintro _ w3 ⟨t2, rfl, hok2, hm2, hu2, hb3'⟩
  have hb3 : Below w2.heap.size w2 w3 := hb3'
  obtain ⟨A2, m2, c2', rs2, ⟨uA2, n2, uc2, us2⟩⟩ := t2
  unfold Tly.val
  dsimp only at hu2 ⊢
  have hs3 := hb3.size
  have hx := Blk.below (unhide HX) hb3 (unhide HS2)
  have x0 := hx.cell 0
  have x1 := hx.cell 1
  have hltx : w1.heap.size < w3.heap.size := by have := unhide HS2; omega
  have HB3 := hide ((unhide HB2).trans (hb3.mono (unhide HB2).size))
  have HO3 := hide (((unhide HO2).more (Nat.le_of_lt (unhide HS2))).below hb3)
  have HO4 := hide hok2
  have HMM := hide ((unhide HM1).trans hm2.symm)
  have HUU := hide ((unhide HU1).trans hu2.symm)
  clear hok2 hm2 hu2 hb3 hb3' hx e0 e1 f0 f1 hs1
  go_wp2_with fail
  have HB4 := hide ((unhide HB3).alloc (unhide HB3).size (.cells #[.slice A2 m2 c2', .slice uA2 n2 uc2] 25))
  have hbn : Below w3.heap.size w3 (w3.alloc (.cells #[.slice A2 m2 c2', .slice uA2 n2 uc2] 25)) := (Below.refl _ _).alloc (Nat.le_refl _) _
  have HSM := hide (sameTally_any ⟨A1, m1, c1', rs1, ⟨uA1, n1, uc1, us1⟩⟩ ⟨A2, m2, c2', rs2, ⟨uA2, n2, uc2, us2⟩⟩ (w3.alloc (.cells #[.slice A2 m2 c2', .slice uA2 n2 uc2] 25)) ((((unhide HO3).more hs3).below hbn).more hbn.size) (((unhide HO4).below hbn).more hbn.size) (unhide HMM) (unhide HUU))
  clear hbn
  unfold Tly.val at HSM
  dsimp only at HSM
  refine (unhide HSM).mono ?_
  rintro _ w5 ⟨rfl, hb5⟩
  have HB5 := hide ((unhide HB4).trans (hb5.mono (unhide HB4).size))
  clear hb5
  go_wp2_with fail
  go_ret
  exact ⟨by simp, unhide HB5⟩
end Go.Proofs.Ytjhgnblakmhncaa
