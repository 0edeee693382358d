/- Contract of tally.Merge. Conditions: none beyond what the theorem states. -/
import Derived.Test.YtjhgnblakmhncaaTallyG
namespace Go.Proofs.Ytjhgnblakmhncaa
open Go.RowKit
set_option linter.unusedVariables false

def TlyPost (B0 : Nat) (r : (List (List Int) × List Int) × Int) (e : Ending) (w w' : World) : Prop :=
  ∃ t : Tly, e = .returned (.tuple #[t.val, .int .i64 r.2]) ∧ t.ok w' w'.heap.size ∧ t.mv = r.1.1 ∧ t.u.zs = r.1.2 ∧ Below B0 w w'
def noTly : Tly := ⟨none, 0, 0, [], ⟨none, 0, 0, []⟩⟩
theorem noTly_ok (w : World) (B : Nat) : noTly.ok w B := ⟨Nat.le_refl _, Nat.zero_le _, ⟨rfl, Reads.none_, fun r hr => by cases hr⟩, rfl, Nat.le_refl _, Nat.zero_le _, Reads.none_⟩
def mergeP (ma : List (List Int)) (ua : List Int) (mb : List (List Int)) (ub : List Int) : (List (List Int) × List Int) × Int :=
  if tallyP ma ua = false ∨ tallyP mb ub = false then (([], []), 4) else if ua.length = ub.length then ((List.zipWith maxL ma mb, maxL ua ub), 0) else (([], []), 1)

theorem zipM_get {ma mb : List (List Int)} {k : Nat} {x y : List Int} (hx : ma[k]? = some x) (hy : mb[k]? = some y) : (List.zipWith maxL ma mb)[k]? = some (maxL x y) := by simp [List.getElem?_zipWith, hx, hy]
theorem mixL_get {α : Type} {l a : List α} {k : Nat} (hk : k ≤ l.length) : (l.take k ++ a.drop k)[k]? = a[k]? := by
  rw [List.getElem?_append_right (by rw [List.length_take]; omega), List.length_take, Nat.min_eq_left hk, Nat.sub_self, List.getElem?_drop, Nat.add_zero]
theorem mixL_set {α : Type} {l a : List α} {k : Nat} {z : α} (hk : k < a.length) (hz : l[k]? = some z) : (l.take k ++ a.drop k).set k z = l.take (k + 1) ++ a.drop (k + 1) := by
  have hl : k < l.length := (List.getElem?_eq_some_iff.1 hz).1
  rw [List.set_append_right _ _ (by rw [List.length_take]; omega), List.length_take, Nat.min_eq_left (by omega), Nat.sub_self, take_snoc l k z hz, List.append_assoc]
  congr 1
  rw [List.drop_eq_getElem_cons hk]
  rfl

set_option maxHeartbeats 1600000 in
theorem tallyMerge_any (a b : Tly) (B : Nat) (w : World) (ha : a.ok w B) (hb : b.ok w B) (hB : B ≤ w.heap.size) :
    Calls Try.prog 11 #[a.val, b.val] w fun e w' => TlyPost w.heap.size (mergeP a.mv a.u.zs b.mv b.u.zs) e w w' := by
  have HA := hide ha
  have HB := hide hb
  have HBB := hide hB
  have HM1 := hide (fun W (hW : Below w.heap.size w W) => tallyMay_any a B W (ha.below (hW.mono hB)) (Nat.le_trans hB hW.size))
  have HM2 := hide (fun W (hW : Below w.heap.size w W) => tallyMay_any b B W (hb.below (hW.mono hB)) (Nat.le_trans hB hW.size))
  have HCP := hide (fun (hg : tallyP a.mv a.u.zs = true) W (hW : Below w.heap.size w W) => copied_any a B W (ha.below (hW.mono hB)) (Nat.le_trans hB hW.size) hg)
  obtain ⟨A, m, c, rs, ⟨uA, n, uc, us⟩⟩ := a
  obtain ⟨A', m', c', rs', ⟨uA', n', uc', us'⟩⟩ := b
  have hl1 : us.length = n := ha.2.2.2.1
  have hl2 : us'.length = n' := hb.2.2.2.1
  have hn1 : n ≤ 9223372036854775807 := by have h1 := ha.2.2.2.2.1; have h2 := ha.2.2.2.2.2.1; unfold maxLen at h2; dsimp only at h1 h2; omega
  have hn2 : n' ≤ 9223372036854775807 := by have h1 := hb.2.2.2.2.1; have h2 := hb.2.2.2.2.2.1; unfold maxLen at h2; dsimp only at h1 h2; omega
  unfold Tly.val at HM1 HM2 HCP ⊢
  dsimp only at HM1 HM2 HCP ⊢
  generalize hmv : Tly.mv ⟨A, m, c, rs, ⟨uA, n, uc, us⟩⟩ = mv at *
  generalize hmv' : Tly.mv ⟨A', m', c', rs', ⟨uA', n', uc', us'⟩⟩ = mv' at *
  obtain ⟨wx, hwx⟩ : ∃ wx, wx = ((w.alloc (.cells #[.slice A m c, .slice uA n uc] 25)).alloc (.cells #[.slice A' m' c', .slice uA' n' uc'] 25)).alloc (.cells #[.slice none 0 0, .slice none 0 0] 25) := ⟨_, rfl⟩
  have hbx : Below w.heap.size w wx := by rw [hwx]; exact (((Below.refl _ _).alloc (Nat.le_refl _) _).alloc (by simp) _).alloc (by simp; omega) _
  have hsx : wx.heap.size = w.heap.size + 3 := by rw [hwx]; simp
  have k0 : Blk wx w.heap.size 25 #[.slice A m c, .slice uA n uc] := by rw [hwx]; exact ((Blk.new w 25 _).alloc _).alloc _
  have k1 : Blk wx (w.heap.size + 1) 25 #[.slice A' m' c', .slice uA' n' uc'] := by
    rw [hwx]
    have h := (Blk.new (w.alloc (.cells #[.slice A m c, .slice uA n uc] 25)) 25 #[.slice A' m' c', .slice uA' n' uc']).alloc (.cells #[.slice none 0 0, .slice none 0 0] 25)
    simpa using h
  have k2 : Blk wx (w.heap.size + 2) 25 #[.slice none 0 0, .slice none 0 0] := by
    rw [hwx]
    have h := Blk.new ((w.alloc (.cells #[.slice A m c, .slice uA n uc] 25)).alloc (.cells #[.slice A' m' c', .slice uA' n' uc'] 25)) 25 #[.slice none 0 0, .slice none 0 0]
    simpa using h
  have HBX := hide hbx
  have HWX := hide hwx
  have HK0 := hide k0
  have HK1 := hide k1
  have HK2 := hide k2
  have HL1 := hide hl1
  have HL2 := hide hl2
  have HSX := hide (show w.heap.size + 3 ≤ wx.heap.size by omega)
  have HMV := hide hmv
  have HMV' := hide hmv'
  have g0 : wx.cell? ⟨w.heap.size, 0, none⟩ = some (.slice A m c) := k0.cell 0
  have g1 : wx.cell? ⟨w.heap.size, 1, none⟩ = some (.slice uA n uc) := k0.cell 1
  have HM1' := hide (unhide HM1 wx hbx)
  clear ha hb hB hbx hsx hwx k0 k1 k2 hl1 hl2 hmv hmv' HM1
  cases hta : tallyP mv us with
  | false =>
    have HF := hide (show mergeP mv us mv' us' = (([], []), 4) by simp [mergeP, hta])
    rw [hta] at HM1'
    clear hta HCP
    go_enter Try.func11, Try.ntmps11
    go_wp2_with fail
    rw [← unhide HWX]
    refine (unhide HM1').mono ?_
    rintro _ w1 ⟨rfl, hb1⟩
    have hk2 := Blk.below (unhide HK2) hb1 (by have := unhide HSX; omega)
    have z0 := hk2.cell 0
    have z1 := hk2.cell 1
    have f0 := hk2.frozen 0
    have f1 := hk2.frozen 1
    have HB1 := hide ((unhide HBX).trans (hb1.mono (unhide HBX).size))
    have HZ := hide hk2
    clear hb1 hk2
    go_wp2_with fail
    have hz1 := (unhide HZ).set_ 0 (.slice none 0 0)
    have hz2 := hz1.set_ 1 (.slice none 0 0)
    have y0 := hz2.cell 0
    have y1 := hz2.cell 1
    refine bodyPost_ret (v := .tuple #[.agg #[.slice none 0 0, .slice none 0 0], .int .i64 4]) (by simp [results, Try.results11, go_sem, y0, y1]) rfl ?_
    rw [unhide HF]
    exact ⟨noTly, rfl, noTly_ok _ _, rfl, rfl, ((unhide HB1).setCell (by show w.heap.size ≤ w.heap.size + 2; omega) _).setCell (by show w.heap.size ≤ w.heap.size + 2; omega) _⟩
  | true =>
    have HTA := hide hta
    rw [hta] at HM1'
    have HCP' := hide (unhide HCP hta)
    have HLG := hide (tallyP_good hta)
    clear HCP
    cases htb : tallyP mv' us' with
    | false =>
      have HF := hide (show mergeP mv us mv' us' = (([], []), 4) by simp [mergeP, htb])
      rw [htb] at HM2
      clear hta htb HCP'
      go_enter Try.func11, Try.ntmps11
      go_wp2_with fail
      rw [← unhide HWX]
      refine (unhide HM1').mono ?_
      rintro _ w1 ⟨rfl, hb1⟩
      have hk1 := Blk.below (unhide HK1) hb1 (by have := unhide HSX; omega)
      have c0 := hk1.cell 0
      have c1 := hk1.cell 1
      have hk2 := Blk.below (unhide HK2) hb1 (by have := unhide HSX; omega)
      have hs1 := hb1.size
      have HB1 := hide ((unhide HBX).trans (hb1.mono (unhide HBX).size))
      have HZ1 := hide hk2
      clear hb1 hk2 hk1
      go_wp2_with fail
      refine (unhide HM2 _ (unhide HB1)).mono ?_
      rintro _ w2 ⟨rfl, hb2⟩
      have hk2 := Blk.below (unhide HZ1) hb2 (by have := unhide HSX; omega)
      have z0 := hk2.cell 0
      have z1 := hk2.cell 1
      have f0 := hk2.frozen 0
      have f1 := hk2.frozen 1
      have HB2 := hide ((unhide HB1).trans (hb2.mono (unhide HB1).size))
      have HZ := hide hk2
      clear hb2 hk2
      go_wp2_with fail
      have hz1 := (unhide HZ).set_ 0 (.slice none 0 0)
      have hz2 := hz1.set_ 1 (.slice none 0 0)
      have y0 := hz2.cell 0
      have y1 := hz2.cell 1
      refine bodyPost_ret (v := .tuple #[.agg #[.slice none 0 0, .slice none 0 0], .int .i64 4]) (by simp [results, Try.results11, go_sem, y0, y1]) rfl ?_
      rw [unhide HF]
      exact ⟨noTly, rfl, noTly_ok _ _, rfl, rfl, ((unhide HB2).setCell (by show w.heap.size ≤ w.heap.size + 2; omega) _).setCell (by show w.heap.size ≤ w.heap.size + 2; omega) _⟩
    | true =>
      have HTB := hide htb
      have HLH := hide (tallyP_good htb)
      rw [htb] at HM2
      clear hta htb
      by_cases he : n = n'
      rotate_left
      · have HF := hide (show mergeP mv us mv' us' = (([], []), 1) by simp [mergeP, unhide HTA, unhide HTB, unhide HL1, unhide HL2, he])
        have e1 : (((n : Nat) : Int) != (n' : Nat)) = true := by simp; omega
        have e2 : (n != n') = true := by simp; omega
        clear he HCP'
        go_enter Try.func11, Try.ntmps11
        go_wp2_with fail
        rw [← unhide HWX]
        refine (unhide HM1').mono ?_
        rintro _ w1 ⟨rfl, hb1⟩
        have hk0 := Blk.below (unhide HK0) hb1 (by have := unhide HSX; omega)
        have hk1 := Blk.below (unhide HK1) hb1 (by have := unhide HSX; omega)
        have hk2 := Blk.below (unhide HK2) hb1 (by have := unhide HSX; omega)
        have c0 := hk1.cell 0
        have c1 := hk1.cell 1
        have hs1 := hb1.size
        have HB1 := hide ((unhide HBX).trans (hb1.mono (unhide HBX).size))
        have HZ0 := hide hk0
        have HZ1 := hide hk1
        have HZ2 := hide hk2
        clear hb1 hk2 hk1 hk0
        go_wp2_with fail
        refine (unhide HM2 _ (unhide HB1)).mono ?_
        rintro _ w2 ⟨rfl, hb2⟩
        have hk0 := Blk.below (unhide HZ0) hb2 (by have := unhide HSX; omega)
        have hk1 := Blk.below (unhide HZ1) hb2 (by have := unhide HSX; omega)
        have hk2 := Blk.below (unhide HZ2) hb2 (by have := unhide HSX; omega)
        have a1 := hk0.cell 1
        have b1 := hk1.cell 1
        have z0 := hk2.cell 0
        have z1 := hk2.cell 1
        have f0 := hk2.frozen 0
        have f1 := hk2.frozen 1
        have HB2 := hide ((unhide HB1).trans (hb2.mono (unhide HB1).size))
        have HZ := hide hk2
        clear hb2 hk2 hk1 hk0
        go_wp2_with fail
        have hz1 := (unhide HZ).set_ 0 (.slice none 0 0)
        have hz2 := hz1.set_ 1 (.slice none 0 0)
        have y0 := hz2.cell 0
        have y1 := hz2.cell 1
        refine bodyPost_ret (v := .tuple #[.agg #[.slice none 0 0, .slice none 0 0], .int .i64 1]) (by simp [results, Try.results11, go_sem, y0, y1]) rfl ?_
        rw [unhide HF]
        exact ⟨noTly, rfl, noTly_ok _ _, rfl, rfl, ((unhide HB2).setCell (by show w.heap.size ≤ w.heap.size + 2; omega) _).setCell (by show w.heap.size ≤ w.heap.size + 2; omega) _⟩
      subst he
      have HF := hide (show mergeP mv us mv' us' = ((List.zipWith maxL mv mv', maxL us us'), 0) by simp [mergeP, unhide HTA, unhide HTB, unhide HL1, unhide HL2])
      have hn8 : n ≤ 8 := by have := (unhide HLG).2.1; rw [unhide HL1] at this; exact this
      have hn1' : 1 ≤ n := by have := (unhide HLG).1; rw [unhide HL1] at this; exact this
      have HMN := hide (show mv.length = n by have := (unhide HLG).2.2.2.1; rw [unhide HL1] at this; exact this)
      have HMN' := hide (show mv'.length = n by have := (unhide HLH).2.2.2.1; rw [unhide HL2] at this; exact this)
      have HMR := hide (show ∀ l ∈ mv, l.length = n from fun l hl => by have := ((unhide HLG).2.2.2.2 l hl).1; rw [unhide HL1] at this; exact this)
      have HMR' := hide (show ∀ l ∈ mv', l.length = n from fun l hl => by have := ((unhide HLH).2.2.2.2 l hl).1; rw [unhide HL2] at this; exact this)
      have hmn : m' = n := by
        have h1 := unhide HMN'
        have h2 : rs'.length = m' := (unhide HB).2.2.1.1
        rw [← unhide HMV', Tly.mv, List.length_map] at h1
        exact h2.symm.trans h1
      obtain rfl : n = m' := hmn.symm
      have hcc : n ≤ c' := (unhide HB).1
      have hccm : c' ≤ 9223372036854775807 := by have h := (unhide HB).2.1; unfold maxLen at h; exact h
      go_enter Try.func11, Try.ntmps11
      go_wp2_with fail
      rw [← unhide HWX]
      refine (unhide HM1').mono ?_
      rintro _ w1 ⟨rfl, hb1⟩
      have hk0 := Blk.below (unhide HK0) hb1 (by have := unhide HSX; omega)
      have hk1 := Blk.below (unhide HK1) hb1 (by have := unhide HSX; omega)
      have hk2 := Blk.below (unhide HK2) hb1 (by have := unhide HSX; omega)
      have c0 := hk1.cell 0
      have c1 := hk1.cell 1
      have hs1 := hb1.size
      have HB1 := hide ((unhide HBX).trans (hb1.mono (unhide HBX).size))
      have HZ0 := hide hk0
      have HZ1 := hide hk1
      have HZ2 := hide hk2
      clear hb1 hk2 hk1 hk0
      go_wp2_with fail
      refine (unhide HM2 _ (unhide HB1)).mono ?_
      rintro _ w2 ⟨rfl, hb2⟩
      have hk0 := Blk.below (unhide HZ0) hb2 (by have := unhide HSX; omega)
      have hk1 := Blk.below (unhide HZ1) hb2 (by have := unhide HSX; omega)
      have hk2 := Blk.below (unhide HZ2) hb2 (by have := unhide HSX; omega)
      have a0 := hk0.cell 0
      have a1 := hk0.cell 1
      have b1 := hk1.cell 1
      have hs2 := hb2.size
      have HB2 := hide ((unhide HB1).trans (hb2.mono (unhide HB1).size))
      have HY0 := hide hk0
      have HY1 := hide hk1
      have HY2 := hide hk2
      clear hb2 hk2 hk1 hk0
      go_wp2_with fail
      refine (unhide HCP' _ (unhide HB2)).mono ?_
      rintro _ w3 ⟨v, u, L, rfl, hOT, hOR, hLz, huz, hb3⟩
      have hbb : Below w.heap.size w w3 := (unhide HB2).trans (hb3.mono (unhide HB2).size)
      obtain ⟨A2, c2, rfl, hMS⟩ := MState.start (n := n) (World.ownsRow.mono hOT (unhide HB2).size) (hOR.mono (unhide HB2).size) hLz huz (unhide HL1) (unhide HMN) hbb
      have huv : u.val = .slice (some ⟨u.g, 0, none⟩) n u.cap := orw_val (by rw [huz]; exact unhide HL1)
      rw [huv]
      have hs3 := hb3.size
      have hk1 := Blk.below (unhide HY1) hb3 (by have := unhide HSX; omega)
      have hk2 := Blk.below (unhide HY2) hb3 (by have := unhide HSX; omega)
      have hlt1 : w.heap.size + 1 < w3.heap.size := by have := unhide HSX; omega
      have hlt2 : w.heap.size + 2 < w3.heap.size := by have := unhide HSX; omega
      have d0 := hk1.cell 0
      have d1 := hk1.cell 1
      have HX1 := hide (hk1.alloc (.cells #[.slice A2 n c2, .slice (some ⟨u.g, 0, none⟩) n u.cap] 25))
      have HX2 := hide (hk2.alloc (.cells #[.slice A2 n c2, .slice (some ⟨u.g, 0, none⟩) n u.cap] 25))
      have HMS := hide hMS
      clear hOT hOR hLz huz hb3 hbb hMS huv hk1 hk2 a0 a1 b1 c0 c1
      generalize u.g = ug at HX1 HX2 HMS ⊢
      generalize u.cap = ucap at HX1 HX2 HMS ⊢
      go_wp2_with fail
      generalize w3.alloc (.cells #[.slice A2 n c2, .slice (some ⟨ug, 0, none⟩) n ucap] 25) = w4 at HX1 HX2 HMS ⊢
      generalize w3.heap.size = M at HMS hlt1 hlt2 ⊢
      obtain ⟨T, hB0, hnuc, hucm, hul, hI, hupd⟩ := (unhide HMS).used
      refine (most_any ug ucap us T uA' n uc' us' B w4 hI hul (unhide HL2) hn8 ((unhide HB).2.2.2.2.2.2.below ((unhide HMS).below.mono (unhide HBB))) (Nat.le_trans (unhide HBB) hB0)).mono ?_
      rintro _ w5 ⟨rfl, hI5, hg5⟩
      have HMS5 := hide (hupd w5 (maxL us us') hg5 hI5 (maxL_len hul (unhide HL2)))
      have hX1 := blk_tly_grown (unhide HX1) hI (by decide) hg5
      have HX25 := hide (blk_tly_grown (unhide HX2) hI (by decide) hg5)
      have d0' := hX1.cell 0
      have d1' := hX1.cell 1
      clear hI hupd hI5 hg5 hul hX1 HMS HX1 HX2 d0 d1 hs1 hs2 hs3
      go_wp2_with fail
      go_loopw [36] (fun i wr => ∃ (k : Nat), k ≤ n ∧ i = .int .i64 k ∧ Hid (MState w.heap.size w wr M A2 c2 ug ucap n (maxL us us') ((List.zipWith maxL mv mv').take k ++ mv.drop k)) ∧ Hid (Blk wr (w.heap.size + 2) 25 #[.slice none 0 0, .slice none 0 0])) (fun i _ => n - (intOf i).toNat)
      case atStart => exact ⟨0, Nat.zero_le _, rfl, HMS5, HX25⟩
      case round =>
        obtain ⟨k, hk, rfl, HST, HX⟩ := hrel
        by_cases hlt : k < n
        · obtain ⟨b', o', rb, rfl, hbb, hrb, hcb, hokb⟩ := at_tab ((unhide HB).2.2.1.below ((unhide HST).below.mono (unhide HBB))) hlt
          have hzb : mv'[k]? = some rb.zs := by rw [← unhide HMV', Tly.mv, List.getElem?_map, hrb]; rfl
          have hzbl : rb.zs.length = n := unhide HMR' _ (List.mem_of_getElem? hzb)
          obtain ⟨hb, ho, g, cap, zs, T, rfl, hc1, hc2, hcell, hB0', hzc, hcapm, hzk, hI, hupd⟩ := (unhide HST).row hlt
          have hzl' : (List.zipWith maxL mv mv').length = n := by simp [unhide HMN, unhide HMN']
          rw [mixL_get (by omega)] at hzk
          have hzl : zs.length = n := unhide HMR _ (List.mem_of_getElem? hzk)
          have hmx := zipM_get hzk hzb
          have m0 : wr.cell? ⟨M, 0, none⟩ = some (.slice (some ⟨hb, ho, none⟩) n c2) := (unhide HST).blk.cell 0
          obtain ⟨rA, rn, rc, rz⟩ := rb
          obtain ⟨q1, q2, q3, q4⟩ := hokb
          dsimp only at hcb hzb hzbl hmx q1 q2 q3 q4
          obtain rfl : n = rn := by omega
          rw [hzl] at hcell
          have HMO := hide (most_any g cap zs T rA n rc rz B wr hI hzl hzbl hn8 q4 (Nat.le_trans (unhide HBB) hB0'))
          have HUP := hide (fun w2 (hg : wr.grownBy w2 (some g)) (hI2 : IRow w2 g (maxL zs rz) T) => by
            have h := hupd w2 (maxL zs rz) hg hI2 (by rw [maxL_len hzl hzbl, hzl])
            rw [mixL_set (by rw [unhide HMN]; exact hlt) hmx] at h
            exact h)
          have HII := hide hI
          unfold maxLen at hc2
          clear hupd hI q1 q4 hzbl hzl hmx hzk hzb hrb hzl'
          go_wp2_with fail
          refine (unhide HMO).mono ?_
          rintro _ w6 ⟨rfl, hI6, hg6⟩
          have HS6 := hide (unhide HUP w6 hg6 hI6)
          have HX6 := hide (blk_tly_grown (unhide HX) (unhide HII) (by decide) hg6)
          clear hI6 hg6
          go_wp2_with fail
          go_roundw
          case rel => exact ⟨k + 1, by omega, by go_num, HS6, HX6⟩
          case measure => simp [intOf]; omega
        · obtain rfl : k = n := by omega
          have HFIN := hide (show MState w.heap.size w wr M A2 c2 ug ucap k (maxL us us') (List.zipWith maxL mv mv') by
            have h := unhide HST
            rw [List.take_of_length_le (by simp [unhide HMN, unhide HMN']), List.drop_of_length_le (by rw [unhide HMN]; exact Nat.le_refl _), List.append_nil] at h
            exact h)
          have m0 : wr.cell? ⟨M, 0, none⟩ = some (.slice A2 k c2) := (unhide HST).blk.cell 0
          have m1 : wr.cell? ⟨M, 1, none⟩ = some (.slice (some ⟨ug, 0, none⟩) k ucap) := (unhide HST).blk.cell 1
          have z0 := (unhide HX).cell 0
          have z1 := (unhide HX).cell 1
          have f0 := (unhide HX).frozen 0
          have f1 := (unhide HX).frozen 1
          clear HST
          go_wp2_with fail
          have hz1 := (unhide HX).set_ 0 (.slice A2 k c2)
          have hz2 := hz1.set_ 1 (.slice (some ⟨ug, 0, none⟩) k ucap)
          have y0 := hz2.cell 0
          have y1 := hz2.cell 1
          obtain ⟨t, hv, hok, hmv, huz⟩ := (((unhide HFIN).far (unhide HX) (by omega) (by omega) 0 (.slice A2 k c2)).far hz1 (by omega) (by omega) 1 (.slice (some ⟨ug, 0, none⟩) k ucap)).read
          refine bodyPost_ret (v := .tuple #[.agg #[.slice A2 k c2, .slice (some ⟨ug, 0, none⟩) k ucap], .int .i64 0]) (by simp [results, Try.results11, go_sem, y0, y1]) rfl ?_
          rw [unhide HF]
          exact ⟨t, by rw [hv], hok, hmv, huz, ((unhide HFIN).below.setCell (by show w.heap.size ≤ w.heap.size + 2; omega) _).setCell (by show w.heap.size ≤ w.heap.size + 2; omega) _⟩
end Go.Proofs.Ytjhgnblakmhncaa
