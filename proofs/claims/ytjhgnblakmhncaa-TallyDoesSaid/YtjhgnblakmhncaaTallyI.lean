/- Contract of the reference's TallyMerge. Conditions: none beyond what the theorem states. -/
import Derived.Test.YtjhgnblakmhncaaTallyH
namespace Go.Proofs.Ytjhgnblakmhncaa
open Go.RowKit
set_option linter.unusedVariables false

theorem mix_same {α : Type} {l a : List α} {k : Nat} {z : α} (hz : l[k]? = some z) (ha : a[k]? = some z) : l.take k ++ a.drop k = l.take (k + 1) ++ a.drop (k + 1) := by
  rw [take_snoc l k z hz, List.append_assoc, drop_cons a k z ha]
  rfl
theorem set_same {α : Type} {l : List α} {k : Nat} {x : α} (h : l[k]? = some x) : l.set k x = l := by
  apply List.ext_getElem?
  intro j
  rw [List.getElem?_set]
  split
  · rename_i e
    subst e
    rw [if_pos (List.getElem?_eq_some_iff.1 h).1, h]
  · rfl
theorem cellU_get {us : List Int} {j : Nat} (h : j < us.length) : us[j]? = some (cellU us j) := by
  unfold cellU; rw [List.getD_eq_getElem?_getD, List.getElem?_eq_getElem h]; rfl
theorem cellM_get {mv : List (List Int)} {i j : Nat} {zs : List Int} (h : mv[i]? = some zs) (hj : j < zs.length) : zs[j]? = some (cellM mv i j) := by
  unfold cellM; rw [List.getD_eq_getElem?_getD (l := mv), h]; exact cellU_get hj

set_option maxHeartbeats 1600000 in
theorem tallyMerge_ref (a b : Tly) (B : Nat) (w : World) (ha : a.ok w B) (hb : b.ok w B) (hB : B ≤ w.heap.size) :
    Calls Try.prog 12 #[a.val, b.val] w fun e w' => TlyPost w.heap.size (mergeP a.mv a.u.zs b.mv b.u.zs) e w w' := by
  have HA := hide ha
  have HGA := hide (fun (h : tallyP a.mv a.u.zs = true) => tly_grid ha h)
  have HGB := hide (fun (h : tallyP b.mv b.u.zs = true) => tly_grid hb h)
  have HB := hide hb
  have HBB := hide hB
  have HM1 := hide (fun W (hW : Below w.heap.size w W) => tallyMay_ref a B W (ha.below (hW.mono hB)) (Nat.le_trans hB hW.size))
  have HM2 := hide (fun W (hW : Below w.heap.size w W) => tallyMay_ref b B W (hb.below (hW.mono hB)) (Nat.le_trans hB hW.size))
  have HCP := hide (fun (hg : tallyP a.mv a.u.zs = true) W (hW : Below w.heap.size w W) => ownTally_any a B W (ha.below (hW.mono hB)) (Nat.le_trans hB hW.size) hg)
  obtain ⟨A, m, c, rs, ⟨uA, n, uc, us⟩⟩ := a
  obtain ⟨A', m', c', rs', ⟨uA', n', uc', us'⟩⟩ := b
  have hl1 : us.length = n := ha.2.2.2.1
  have hl2 : us'.length = n' := hb.2.2.2.1
  have hn1 : n ≤ 9223372036854775807 := by have h1 := ha.2.2.2.2.1; have h2 := ha.2.2.2.2.2.1; unfold maxLen at h2; dsimp only at h1 h2; omega
  have hn2 : n' ≤ 9223372036854775807 := by have h1 := hb.2.2.2.2.1; have h2 := hb.2.2.2.2.2.1; unfold maxLen at h2; dsimp only at h1 h2; omega
  unfold Tly.val at HM1 HM2 HCP ⊢
  dsimp only at HM1 HM2 HCP HGA HGB ⊢
  generalize hmv : Tly.mv ⟨A, m, c, rs, ⟨uA, n, uc, us⟩⟩ = mv at *
  generalize hmv' : Tly.mv ⟨A', m', c', rs', ⟨uA', n', uc', us'⟩⟩ = mv' at *
  obtain ⟨wx, hwx⟩ : ∃ wx, wx = ((w.alloc (.cells #[.slice A m c, .slice uA n uc] 25)).alloc (.cells #[.slice A' m' c', .slice uA' n' uc'] 25)).alloc (.cells #[.slice none 0 0, .slice none 0 0] 25) := ⟨_, rfl⟩
  have hbx : Below w.heap.size w wx := by rw [hwx]; exact (((Below.refl _ _).alloc (Nat.le_refl _) _).alloc (by simp) _).alloc (by simp; omega) _
  have hsx : wx.heap.size = w.heap.size + 3 := by rw [hwx]; simp
  have k0 : Blk wx w.heap.size 25 #[.slice A m c, .slice uA n uc] := by rw [hwx]; exact ((Blk.new w 25 _).alloc _).alloc _
  have k1 : Blk wx (w.heap.size + 1) 25 #[.slice A' m' c', .slice uA' n' uc'] := by
    rw [hwx]
    have h := (Blk.new (w.alloc (.cells #[.slice A m c, .slice uA n uc] 25)) 25 #[.slice A' m' c', .slice uA' n' uc']).alloc (.cells #[.slice none 0 0, .slice none 0 0] 25)
    simpa using h
  have k2 : Blk wx (w.heap.size + 2) 25 #[.slice none 0 0, .slice none 0 0] := by
    rw [hwx]
    have h := Blk.new ((w.alloc (.cells #[.slice A m c, .slice uA n uc] 25)).alloc (.cells #[.slice A' m' c', .slice uA' n' uc'] 25)) 25 #[.slice none 0 0, .slice none 0 0]
    simpa using h
  have HBX := hide hbx
  have HWX := hide hwx
  have HK0 := hide k0
  have HK1 := hide k1
  have HK2 := hide k2
  have HL1 := hide hl1
  have HL2 := hide hl2
  have HSX := hide (show w.heap.size + 3 ≤ wx.heap.size by omega)
  have HMV := hide hmv
  have HMV' := hide hmv'
  have g0 : wx.cell? ⟨w.heap.size, 0, none⟩ = some (.slice A m c) := k0.cell 0
  have g1 : wx.cell? ⟨w.heap.size, 1, none⟩ = some (.slice uA n uc) := k0.cell 1
  have HM1' := hide (unhide HM1 wx hbx)
  clear ha hb hB hbx hsx hwx k0 k1 k2 hl1 hl2 hmv hmv' HM1
  cases hta : tallyP mv us with
  | false =>
    have HF := hide (show mergeP mv us mv' us' = (([], []), 4) by simp [mergeP, hta])
    rw [hta] at HM1'
    clear hta HCP
    go_enter Try.func12, Try.ntmps12
    go_wp2_with fail
    rw [← unhide HWX]
    refine (unhide HM1').mono ?_
    rintro _ w1 ⟨rfl, hb1⟩
    have hk2 := Blk.below (unhide HK2) hb1 (by have := unhide HSX; omega)
    have z0 := hk2.cell 0
    have z1 := hk2.cell 1
    have f0 := hk2.frozen 0
    have f1 := hk2.frozen 1
    have HB1 := hide ((unhide HBX).trans (hb1.mono (unhide HBX).size))
    have HZ := hide hk2
    clear hb1 hk2
    go_wp2_with fail
    have hz1 := (unhide HZ).set_ 0 (.slice none 0 0)
    have hz2 := hz1.set_ 1 (.slice none 0 0)
    have y0 := hz2.cell 0
    have y1 := hz2.cell 1
    refine bodyPost_ret (v := .tuple #[.agg #[.slice none 0 0, .slice none 0 0], .int .i64 4]) (by simp [results, Try.results12, go_sem, y0, y1]) rfl ?_
    rw [unhide HF]
    exact ⟨noTly, rfl, noTly_ok _ _, rfl, rfl, ((unhide HB1).setCell (by show w.heap.size ≤ w.heap.size + 2; omega) _).setCell (by show w.heap.size ≤ w.heap.size + 2; omega) _⟩
  | true =>
    have HTA := hide hta
    rw [hta] at HM1'
    have HCP' := hide (unhide HCP hta)
    have HLG := hide (tallyP_good hta)
    clear HCP
    cases htb : tallyP mv' us' with
    | false =>
      have HF := hide (show mergeP mv us mv' us' = (([], []), 4) by simp [mergeP, htb])
      rw [htb] at HM2
      clear hta htb HCP'
      go_enter Try.func12, Try.ntmps12
      go_wp2_with fail
      rw [← unhide HWX]
      refine (unhide HM1').mono ?_
      rintro _ w1 ⟨rfl, hb1⟩
      have hk1 := Blk.below (unhide HK1) hb1 (by have := unhide HSX; omega)
      have c0 := hk1.cell 0
      have c1 := hk1.cell 1
      have hk2 := Blk.below (unhide HK2) hb1 (by have := unhide HSX; omega)
      have hs1 := hb1.size
      have HB1 := hide ((unhide HBX).trans (hb1.mono (unhide HBX).size))
      have HZ1 := hide hk2
      clear hb1 hk2 hk1
      go_wp2_with fail
      refine (unhide HM2 _ (unhide HB1)).mono ?_
      rintro _ w2 ⟨rfl, hb2⟩
      have hk2 := Blk.below (unhide HZ1) hb2 (by have := unhide HSX; omega)
      have z0 := hk2.cell 0
      have z1 := hk2.cell 1
      have f0 := hk2.frozen 0
      have f1 := hk2.frozen 1
      have HB2 := hide ((unhide HB1).trans (hb2.mono (unhide HB1).size))
      have HZ := hide hk2
      clear hb2 hk2
      go_wp2_with fail
      have hz1 := (unhide HZ).set_ 0 (.slice none 0 0)
      have hz2 := hz1.set_ 1 (.slice none 0 0)
      have y0 := hz2.cell 0
      have y1 := hz2.cell 1
      refine bodyPost_ret (v := .tuple #[.agg #[.slice none 0 0, .slice none 0 0], .int .i64 4]) (by simp [results, Try.results12, go_sem, y0, y1]) rfl ?_
      rw [unhide HF]
      exact ⟨noTly, rfl, noTly_ok _ _, rfl, rfl, ((unhide HB2).setCell (by show w.heap.size ≤ w.heap.size + 2; omega) _).setCell (by show w.heap.size ≤ w.heap.size + 2; omega) _⟩
    | true =>
      have HTB := hide htb
      have HLH := hide (tallyP_good htb)
      rw [htb] at HM2
      clear hta htb
      by_cases he : n = n'
      rotate_left
      · have HF := hide (show mergeP mv us mv' us' = (([], []), 1) by simp [mergeP, unhide HTA, unhide HTB, unhide HL1, unhide HL2, he])
        have e1 : (((n : Nat) : Int) != (n' : Nat)) = true := by simp; omega
        have e2 : (n != n') = true := by simp; omega
        clear he HCP'
        go_enter Try.func12, Try.ntmps12
        go_wp2_with fail
        rw [← unhide HWX]
        refine (unhide HM1').mono ?_
        rintro _ w1 ⟨rfl, hb1⟩
        have hk0 := Blk.below (unhide HK0) hb1 (by have := unhide HSX; omega)
        have hk1 := Blk.below (unhide HK1) hb1 (by have := unhide HSX; omega)
        have hk2 := Blk.below (unhide HK2) hb1 (by have := unhide HSX; omega)
        have c0 := hk1.cell 0
        have c1 := hk1.cell 1
        have hs1 := hb1.size
        have HB1 := hide ((unhide HBX).trans (hb1.mono (unhide HBX).size))
        have HZ0 := hide hk0
        have HZ1 := hide hk1
        have HZ2 := hide hk2
        clear hb1 hk2 hk1 hk0
        go_wp2_with fail
        refine (unhide HM2 _ (unhide HB1)).mono ?_
        rintro _ w2 ⟨rfl, hb2⟩
        have hk0 := Blk.below (unhide HZ0) hb2 (by have := unhide HSX; omega)
        have hk1 := Blk.below (unhide HZ1) hb2 (by have := unhide HSX; omega)
        have hk2 := Blk.below (unhide HZ2) hb2 (by have := unhide HSX; omega)
        have a1 := hk0.cell 1
        have b1 := hk1.cell 1
        have z0 := hk2.cell 0
        have z1 := hk2.cell 1
        have f0 := hk2.frozen 0
        have f1 := hk2.frozen 1
        have HB2 := hide ((unhide HB1).trans (hb2.mono (unhide HB1).size))
        have HZ := hide hk2
        clear hb2 hk2 hk1 hk0
        go_wp2_with fail
        have hz1 := (unhide HZ).set_ 0 (.slice none 0 0)
        have hz2 := hz1.set_ 1 (.slice none 0 0)
        have y0 := hz2.cell 0
        have y1 := hz2.cell 1
        refine bodyPost_ret (v := .tuple #[.agg #[.slice none 0 0, .slice none 0 0], .int .i64 1]) (by simp [results, Try.results12, go_sem, y0, y1]) rfl ?_
        rw [unhide HF]
        exact ⟨noTly, rfl, noTly_ok _ _, rfl, rfl, ((unhide HB2).setCell (by show w.heap.size ≤ w.heap.size + 2; omega) _).setCell (by show w.heap.size ≤ w.heap.size + 2; omega) _⟩
      subst he
      have HF := hide (show mergeP mv us mv' us' = ((List.zipWith maxL mv mv', maxL us us'), 0) by simp [mergeP, unhide HTA, unhide HTB, unhide HL1, unhide HL2])
      have hn8 : n ≤ 8 := by have := (unhide HLG).2.1; rw [unhide HL1] at this; exact this
      have hn1' : 1 ≤ n := by have := (unhide HLG).1; rw [unhide HL1] at this; exact this
      have HMN := hide (show mv.length = n by have := (unhide HLG).2.2.2.1; rw [unhide HL1] at this; exact this)
      have HMN' := hide (show mv'.length = n by have := (unhide HLH).2.2.2.1; rw [unhide HL2] at this; exact this)
      have HMR := hide (show ∀ l ∈ mv, l.length = n from fun l hl => by have := ((unhide HLG).2.2.2.2 l hl).1; rw [unhide HL1] at this; exact this)
      have HMR' := hide (show ∀ l ∈ mv', l.length = n from fun l hl => by have := ((unhide HLH).2.2.2.2 l hl).1; rw [unhide HL2] at this; exact this)
      have hmn : m' = n := by
        have h1 := unhide HMN'
        have h2 : rs'.length = m' := (unhide HB).2.2.1.1
        rw [← unhide HMV', Tly.mv, List.length_map] at h1
        exact h2.symm.trans h1
      obtain rfl : n = m' := hmn.symm
      have hcc : n ≤ c' := (unhide HB).1
      have hccm : c' ≤ 9223372036854775807 := by have h := (unhide HB).2.1; unfold maxLen at h; exact h
      go_enter Try.func12, Try.ntmps12
      go_wp2_with fail
      rw [← unhide HWX]
      refine (unhide HM1').mono ?_
      rintro _ w1 ⟨rfl, hb1⟩
      have hk0 := Blk.below (unhide HK0) hb1 (by have := unhide HSX; omega)
      have hk1 := Blk.below (unhide HK1) hb1 (by have := unhide HSX; omega)
      have hk2 := Blk.below (unhide HK2) hb1 (by have := unhide HSX; omega)
      have c0 := hk1.cell 0
      have c1 := hk1.cell 1
      have hs1 := hb1.size
      have HB1 := hide ((unhide HBX).trans (hb1.mono (unhide HBX).size))
      have HZ0 := hide hk0
      have HZ1 := hide hk1
      have HZ2 := hide hk2
      clear hb1 hk2 hk1 hk0
      go_wp2_with fail
      refine (unhide HM2 _ (unhide HB1)).mono ?_
      rintro _ w2 ⟨rfl, hb2⟩
      have hk0 := Blk.below (unhide HZ0) hb2 (by have := unhide HSX; omega)
      have hk1 := Blk.below (unhide HZ1) hb2 (by have := unhide HSX; omega)
      have hk2 := Blk.below (unhide HZ2) hb2 (by have := unhide HSX; omega)
      have a0 := hk0.cell 0
      have a1 := hk0.cell 1
      have b1 := hk1.cell 1
      have hs2 := hb2.size
      have HB2 := hide ((unhide HB1).trans (hb2.mono (unhide HB1).size))
      have HY0 := hide hk0
      have HY1 := hide hk1
      have HY2 := hide hk2
      clear hb2 hk2 hk1 hk0
      go_wp2_with fail
      refine (unhide HCP' _ (unhide HB2)).mono ?_
      rintro _ w3 ⟨v, u, L, rfl, hOT, hOR, hLz, huz, hb3⟩
      have hbb : Below w.heap.size w w3 := (unhide HB2).trans (hb3.mono (unhide HB2).size)
      obtain ⟨A2, c2, rfl, hMS⟩ := MState.start (n := n) (World.ownsRow.mono hOT (unhide HB2).size) (hOR.mono (unhide HB2).size) hLz huz (unhide HL1) (unhide HMN) hbb
      have huv : u.val = .slice (some ⟨u.g, 0, none⟩) n u.cap := orw_val (by rw [huz]; exact unhide HL1)
      rw [huv]
      have hs3 := hb3.size
      have hk0 := Blk.below (unhide HY0) hb3 (by have := unhide HSX; omega)
      have hk1 := Blk.below (unhide HY1) hb3 (by have := unhide HSX; omega)
      have hk2 := Blk.below (unhide HY2) hb3 (by have := unhide HSX; omega)
      have hlt0 : w.heap.size < w3.heap.size := by have := unhide HSX; omega
      have hlt1 : w.heap.size + 1 < w3.heap.size := by have := unhide HSX; omega
      have hlt2 : w.heap.size + 2 < w3.heap.size := by have := unhide HSX; omega
      have d1 := hk0.cell 1
      have HX0 := hide (hk0.alloc (.cells #[.slice A2 n c2, .slice (some ⟨u.g, 0, none⟩) n u.cap] 25))
      have HX1 := hide (hk1.alloc (.cells #[.slice A2 n c2, .slice (some ⟨u.g, 0, none⟩) n u.cap] 25))
      have HX2 := hide (hk2.alloc (.cells #[.slice A2 n c2, .slice (some ⟨u.g, 0, none⟩) n u.cap] 25))
      have HMS := hide hMS
      clear hOT hOR hLz huz hb3 hbb hMS huv hk0 hk1 hk2 a0 a1 b1 c0 c1
      generalize u.g = ug at HX0 HX1 HX2 HMS ⊢
      generalize u.cap = ucap at HX0 HX1 HX2 HMS ⊢
      go_wp2_with fail
      generalize w3.alloc (.cells #[.slice A2 n c2, .slice (some ⟨ug, 0, none⟩) n ucap] 25) = w4 at HX0 HX1 HX2 HMS ⊢
      generalize w3.heap.size = M at HMS hlt0 hlt1 hlt2 ⊢
      clear hs1 hs2 hs3 d1
      obtain ⟨b, o, ub, uo, e1, e2, _, e4, e5, e6, e7, e8, HGR⟩ := unhide HGA (unhide HTA)
      obtain ⟨b', o', ub', uo', e1', e2', _, e4', e5', e6', e7', e8', HGR'⟩ := unhide HGB (unhide HTB)
      have hb0 := Nat.lt_of_lt_of_le e1 (unhide HBB)
      have hu0 := Nat.lt_of_lt_of_le e2 (unhide HBB)
      have hb0' := Nat.lt_of_lt_of_le e1' (unhide HBB)
      have hu0' := Nat.lt_of_lt_of_le e2' (unhide HBB)
      obtain ⟨eA, eN, eU, eQ, hrow, hused⟩ := HGR w (Below.refl _ _)
      obtain ⟨eA', eN', eU', eQ', hrow', hused'⟩ := HGR' w (Below.refl _ _)
      dsimp only at eA eN eU eA' eN' eU' e4 e5 e6 e7 e4' e5' e6' e7' e8 e8'
      subst eA eU eA' eU'
      rw [← e8] at eN hrow hused
      rw [← e8'] at hrow' hused'
      obtain rfl : n = m := eN.symm
      have HROW := hide (fun W (hW : Below w.heap.size w W) i hi => by
        obtain ⟨rb, ro, rc, h1, h2, h3, h4, h5⟩ := hrow i hi
        exact (⟨rb, ro, rc, (hW.cell (by show b < _; omega)).trans h1, h2, h3, by omega, fun j hj => (hW.cell (by show rb < _; have := unhide HBB; omega)).trans (h5 j hj).1⟩ :
          ∃ rb ro rc, W.cell? ⟨b, o + i, none⟩ = some (.slice (some ⟨rb, ro, none⟩) n rc) ∧ n ≤ rc ∧ rc ≤ 9223372036854775807 ∧ rb < B ∧ ∀ j, j < n → W.cell? ⟨rb, ro + j, none⟩ = some (.int .i64 (cellM mv i j))))
      have HROW' := hide (fun W (hW : Below w.heap.size w W) i hi => by
        obtain ⟨rb, ro, rc, h1, h2, h3, h4, h5⟩ := hrow' i hi
        exact (⟨rb, ro, rc, (hW.cell (by show b' < _; omega)).trans h1, h2, h3, by omega, fun j hj => (hW.cell (by show rb < _; have := unhide HBB; omega)).trans (h5 j hj).1⟩ :
          ∃ rb ro rc, W.cell? ⟨b', o' + i, none⟩ = some (.slice (some ⟨rb, ro, none⟩) n rc) ∧ n ≤ rc ∧ rc ≤ 9223372036854775807 ∧ rb < B ∧ ∀ j, j < n → W.cell? ⟨rb, ro + j, none⟩ = some (.int .i64 (cellM mv' i j))))
      have HUSE := hide (fun W (hW : Below w.heap.size w W) j hj => ((hW.cell (by show ub < _; exact hu0)).trans (hused j hj).1 : W.cell? ⟨ub, uo + j, none⟩ = some (.int .i64 (cellU us j))))
      have HUSE' := hide (fun W (hW : Below w.heap.size w W) j hj => ((hW.cell (by show ub' < _; exact hu0')).trans (hused' j hj).1 : W.cell? ⟨ub', uo' + j, none⟩ = some (.int .i64 (cellU us' j))))
      clear HGR HGR' hrow hused hrow' hused' e8 e8' e1 e2 e1' e2' eN' eQ eQ'
      go_loopw [31] (fun i wr => ∃ (k : Nat), k ≤ n ∧ i = .int .i64 k ∧ Hid (MState w.heap.size w wr M A2 c2 ug ucap n ((maxL us us').take k ++ us.drop k) ((List.zipWith maxL mv mv').take k ++ mv.drop k)) ∧ Hid (Blk wr w.heap.size 25 #[.slice (some ⟨b, o, none⟩) n c, .slice (some ⟨ub, uo, none⟩) n uc]) ∧ Hid (Blk wr (w.heap.size + 1) 25 #[.slice (some ⟨b', o', none⟩) n c', .slice (some ⟨ub', uo', none⟩) n uc']) ∧ Hid (Blk wr (w.heap.size + 2) 25 #[.slice none 0 0, .slice none 0 0])) (fun i _ => n - (intOf i).toNat)
      case atStart => exact ⟨0, Nat.zero_le _, rfl, HMS, HX0, HX1, HX2⟩
      case round =>
        obtain ⟨k, hk, rfl, HST, HY0, HY1, HY2⟩ := hrel
        by_cases hlt : k < n
        · have hks : us[k]? = some (cellU us k) := cellU_get (by rw [unhide HL1]; exact hlt)
          have hks' : us'[k]? = some (cellU us' k) := cellU_get (by rw [unhide HL2]; exact hlt)
          have HKS := hide hks
          have HMXU := hide (maxL_get hks hks')
          obtain ⟨x, hx⟩ : ∃ x, mv[k]? = some x := ⟨_, List.getElem?_eq_getElem (by rw [unhide HMN]; exact hlt)⟩
          obtain ⟨y, hy⟩ : ∃ y, mv'[k]? = some y := ⟨_, List.getElem?_eq_getElem (by rw [unhide HMN']; exact hlt)⟩
          have HXL := hide (unhide HMR x (List.mem_of_getElem? hx))
          have HYL := hide (unhide HMR' y (List.mem_of_getElem? hy))
          have HZM := hide (zipM_get hx hy)
          have HX := hide hx
          have HY := hide hy
          have hbw := (unhide HST).below
          have a1 : wr.cell? ⟨w.heap.size, 1, none⟩ = some (.slice (some ⟨ub, uo, none⟩) n uc) := (unhide HY0).cell 1
          have b1 : wr.cell? ⟨w.heap.size + 1, 1, none⟩ = some (.slice (some ⟨ub', uo', none⟩) n uc') := (unhide HY1).cell 1
          have au := unhide HUSE wr hbw k hlt
          have bu := unhide HUSE' wr hbw k hlt
          have hkn : (k : Int) < (n : Int) := by omega
          clear hks hks' hx hy
          by_cases hgt : cellU us k < cellU us' k
          case' pos =>
            obtain ⟨T, hB0, hnuc, hucm, hul, hI, hupd⟩ := (unhide HST).used
            have m1 : wr.cell? ⟨M, 1, none⟩ = some (.slice (some ⟨ug, 0, none⟩) n ucap) := (unhide HST).blk.cell 1
            have i1 : wr.cell? ⟨ug, k, none⟩ = some (.int .i64 (cellU us k)) := hI.cell (by rw [mix_get (by rw [maxL_len (unhide HL1) (unhide HL2)]; exact hk)]; exact unhide HKS)
            have j1 : wr.frozen? ⟨ug, k, none⟩ = false := IRow.frozen hI k
            have HII := hide hI
            have HUP := hide hupd
            have HUL := hide hul
            unfold maxLen at hucm
            clear hI hupd hul
            go_wp2_with fail
            go_quiet (fail)
            go_wp2_with fail
            have m1' : (wr.drewN nq).cell? ⟨M, 1, none⟩ = some (.slice (some ⟨ug, 0, none⟩) n ucap) := m1
            have b1' : (wr.drewN nq).cell? ⟨w.heap.size + 1, 1, none⟩ = some (.slice (some ⟨ub', uo', none⟩) n uc') := b1
            have bu' : (wr.drewN nq).cell? ⟨ub', uo' + k, none⟩ = some (.int .i64 (cellU us' k)) := bu
            have i1' : (wr.drewN nq).cell? ⟨ug, k, none⟩ = some (.int .i64 (cellU us k)) := i1
            have j1' : (wr.drewN nq).frozen? ⟨ug, k, none⟩ = false := j1
            have HZ0 := hide (show Blk (wr.drewN nq) w.heap.size 25 _ from unhide HY0)
            have HZ1 := hide (show Blk (wr.drewN nq) (w.heap.size + 1) 25 _ from unhide HY1)
            have HZ2 := hide (show Blk (wr.drewN nq) (w.heap.size + 2) 25 _ from unhide HY2)
            have HII' := hide (show IRow (wr.drewN nq) ug _ T from unhide HII)
            have HUP' := hide (fun w2 zs' (hg : (wr.drewN nq).grownBy w2 (some ug)) (h1 : IRow w2 ug zs' T) (h2 : zs'.length = n) => unhide HUP w2 zs' ⟨hg.os, hg.tape, hg.output, hg.size, hg.block⟩ h1 h2)
            clear m1 b1 bu i1 j1 HII HUP
            generalize wr.drewN nq = wz at m1' b1' bu' i1' j1' HZ0 HZ1 HZ2 HII' HUP' ⊢
            have hg9 : wz.grownBy (wz.setCell ⟨ug, k, none⟩ (.int .i64 (cellU us' k))) (some ug) := only_setCell (World.grownBy.refl wz _) (.inl rfl) _
            have HS9 := hide (show MState w.heap.size w (wz.setCell ⟨ug, k, none⟩ (.int .i64 (cellU us' k))) M A2 c2 ug ucap n ((maxL us us').take (k + 1) ++ us.drop (k + 1)) ((List.zipWith maxL mv mv').take k ++ mv.drop k) by
              refine unhide HUP' _ _ hg9 ?_ (by rw [List.length_append, List.length_take, List.length_drop, maxL_len (unhide HL1) (unhide HL2), unhide HL1]; omega)
              have h := (unhide HII').set_ (k := k) (by rw [unhide HUL]; exact hlt) (cellU us' k)
              have hz := unhide HMXU
              rw [if_pos hgt] at hz
              rw [mix_set (by rw [unhide HL1]; exact hlt) hz] at h
              exact h)
            have HZ0' := hide (blk_tly_grown (unhide HZ0) (unhide HII') (by decide) hg9)
            have HZ1' := hide (blk_tly_grown (unhide HZ1) (unhide HII') (by decide) hg9)
            have HZ2' := hide (blk_tly_grown (unhide HZ2) (unhide HII') (by decide) hg9)
            have a2 := (unhide HZ0').cell 1
            clear hg9 HUP' HII' HZ0 HZ1 HZ2
            go_still_tail 9, (by kernel_rfl)
            go_wp2_with fail
            generalize (wz.setCell ⟨ug, k, none⟩ (.int .i64 (cellU us' k))) = wy at HS9 HZ0' HZ1' HZ2' a2 ⊢
            have HSV := hide ((unhide HS9).drew)
            have HV0 := hide (show Blk wy.drew w.heap.size 25 _ from unhide HZ0')
            have HV1 := hide (show Blk wy.drew (w.heap.size + 1) 25 _ from unhide HZ1')
            have HV2 := hide (show Blk wy.drew (w.heap.size + 2) 25 _ from unhide HZ2')
            clear HS9 HZ0' HZ1' HZ2' a2 m1' b1' bu' i1' j1'
            generalize wy.drew = wv at HSV HV0 HV1 HV2 ⊢
          case' neg =>
            have HS9 := hide (show MState w.heap.size w wr M A2 c2 ug ucap n ((maxL us us').take (k + 1) ++ us.drop (k + 1)) ((List.zipWith maxL mv mv').take k ++ mv.drop k) by
              have h := unhide HST
              have hz := unhide HMXU
              rw [if_neg hgt] at hz
              rw [mix_same hz (unhide HKS)] at h
              exact h)
            have hgt' : cellU us' k ≤ cellU us k := by omega
            clear hgt
            go_wp2_with fail
            go_quiet (fail)
            go_wp2_with fail
            have HSV := hide ((unhide HS9).drewN nq)
            have HV0 := hide (show Blk (wr.drewN nq) w.heap.size 25 _ from unhide HY0)
            have HV1 := hide (show Blk (wr.drewN nq) (w.heap.size + 1) 25 _ from unhide HY1)
            have HV2 := hide (show Blk (wr.drewN nq) (w.heap.size + 2) 25 _ from unhide HY2)
            clear HS9 a1 b1 au bu
            generalize wr.drewN nq = wv at HSV HV0 HV1 HV2 ⊢
          all_goals
            go_loopw [57] (fun i wi => ∃ (j : Nat), j ≤ n ∧ i = .int .i64 j ∧ Hid (MState w.heap.size w wi M A2 c2 ug ucap n ((maxL us us').take (k + 1) ++ us.drop (k + 1)) (((List.zipWith maxL mv mv').take k ++ mv.drop k).set k ((maxL x y).take j ++ x.drop j))) ∧ Hid (Blk wi w.heap.size 25 #[.slice (some ⟨b, o, none⟩) n c, .slice (some ⟨ub, uo, none⟩) n uc]) ∧ Hid (Blk wi (w.heap.size + 1) 25 #[.slice (some ⟨b', o', none⟩) n c', .slice (some ⟨ub', uo', none⟩) n uc']) ∧ Hid (Blk wi (w.heap.size + 2) 25 #[.slice none 0 0, .slice none 0 0])) (fun i _ => n - (intOf i).toNat)
            case atStart =>
              refine ⟨0, Nat.zero_le _, rfl, ?_, HV0, HV1, HV2⟩
              have e : ((List.zipWith maxL mv mv').take k ++ mv.drop k).set k ((maxL x y).take 0 ++ x.drop 0) = (List.zipWith maxL mv mv').take k ++ mv.drop k :=
                set_same (by rw [mixL_get (by simp [unhide HMN, unhide HMN']; omega)]; exact unhide HX)
              rw [e]
              exact HSV
            case round =>
              obtain ⟨j, hj, rfl, HT1, HW0, HW1, HW2⟩ := hrel
              by_cases hlj : j < n
              · have hjn : (j : Int) < (n : Int) := by omega
                have hbwi := (unhide HT1).below
                obtain ⟨ra, rao, rac, p1, p2, p3, p4, p5⟩ := unhide HROW wr hbwi k hlt
                obtain ⟨rb, rbo, rbc, s1, s2, s3, s4, s5⟩ := unhide HROW' wr hbwi k hlt
                have ae := p5 j hlj
                have be := s5 j hlj
                have ah : wr.cell? ⟨w.heap.size, 0, none⟩ = some (.slice (some ⟨b, o, none⟩) n c) := (unhide HW0).cell 0
                have bh : wr.cell? ⟨w.heap.size + 1, 0, none⟩ = some (.slice (some ⟨b', o', none⟩) n c') := (unhide HW1).cell 0
                have HXJ := hide (cellM_get (unhide HX) (show j < x.length by rw [unhide HXL]; exact hlj))
                have HYJ := hide (cellM_get (unhide HY) (show j < y.length by rw [unhide HYL]; exact hlj))
                have HMJ := hide (maxL_get (unhide HXJ) (unhide HYJ))
                have hML : k < ((List.zipWith maxL mv mv').take k ++ mv.drop k).length := by
                  rw [List.length_append, List.length_take, List.length_drop, unhide HMN]; simp [unhide HMN, unhide HMN']; omega
                clear p5 s5
                by_cases hgt2 : cellM mv k j < cellM mv' k j
                · obtain ⟨hb, ho, g, cap, zs, T, rfl, hc1, hc2, hcell, hB0, hzc, hcapm, hzk, hI, hupd⟩ := (unhide HT1).row hlt
                  rw [List.getElem?_set_self hML] at hzk
                  injection hzk with hzk
                  have hxl := unhide HXL
                  have hyl := unhide HYL
                  have hzl : zs.length = n := by rw [← hzk, List.length_append, List.length_take, List.length_drop, maxL_len hxl hyl, hxl]; omega
                  rw [hzl] at hcell hzc
                  unfold maxLen at hc2 hcapm
                  have i1 : wr.cell? ⟨g, j, none⟩ = some (.int .i64 (cellM mv k j)) := hI.cell (by rw [← hzk, mix_get (by rw [maxL_len hxl hyl]; exact hj)]; exact unhide HXJ)
                  have j1 : wr.frozen? ⟨g, j, none⟩ = false := IRow.frozen hI j
                  have m0 : wr.cell? ⟨M, 0, none⟩ = some (.slice (some ⟨hb, ho, none⟩) n c2) := (unhide HT1).blk.cell 0
                  have HZK := hide hzk
                  have HZL := hide hzl
                  have HII := hide hI
                  have HUP := hide hupd
                  clear hzk hzl hI hupd hxl hyl hML
                  go_wp2_with fail
                  go_quiet (fail)
                  go_wp2_with fail
                  have m0' : (wr.drewN nq).cell? ⟨M, 0, none⟩ = some (.slice (some ⟨hb, ho, none⟩) n c2) := m0
                  have hcell' : (wr.drewN nq).cell? ⟨hb, ho + k, none⟩ = some (.slice (some ⟨g, 0, none⟩) n cap) := hcell
                  have bh' : (wr.drewN nq).cell? ⟨w.heap.size + 1, 0, none⟩ = some (.slice (some ⟨b', o', none⟩) n c') := bh
                  have s1' : (wr.drewN nq).cell? ⟨b', o' + k, none⟩ = some (.slice (some ⟨rb, rbo, none⟩) n rbc) := s1
                  have be' : (wr.drewN nq).cell? ⟨rb, rbo + j, none⟩ = some (.int .i64 (cellM mv' k j)) := be
                  have i1' : (wr.drewN nq).cell? ⟨g, j, none⟩ = some (.int .i64 (cellM mv k j)) := i1
                  have j1' : (wr.drewN nq).frozen? ⟨g, j, none⟩ = false := j1
                  have HZ0 := hide (show Blk (wr.drewN nq) w.heap.size 25 _ from unhide HW0)
                  have HZ1 := hide (show Blk (wr.drewN nq) (w.heap.size + 1) 25 _ from unhide HW1)
                  have HZ2 := hide (show Blk (wr.drewN nq) (w.heap.size + 2) 25 _ from unhide HW2)
                  have HII' := hide (show IRow (wr.drewN nq) g _ T from unhide HII)
                  have HUP' := hide (fun w2 zs' (hg : (wr.drewN nq).grownBy w2 (some g)) (h1 : IRow w2 g zs' T) (h2 : zs'.length = zs.length) => unhide HUP w2 zs' ⟨hg.os, hg.tape, hg.output, hg.size, hg.block⟩ h1 h2)
                  clear m0 hcell bh ah s1 be ae i1 j1 p1 HII HUP HW0 HW1 HW2
                  generalize wr.drewN nq = wz at m0' hcell' bh' s1' be' i1' j1' HZ0 HZ1 HZ2 HII' HUP' ⊢
                  have hg9 : wz.grownBy (wz.setCell ⟨g, j, none⟩ (.int .i64 (cellM mv' k j))) (some g) := only_setCell (World.grownBy.refl wz _) (.inl rfl) _
                  have HS9 := hide (show MState w.heap.size w (wz.setCell ⟨g, j, none⟩ (.int .i64 (cellM mv' k j))) M (some ⟨hb, ho, none⟩) c2 ug ucap n ((maxL us us').take (k + 1) ++ us.drop (k + 1)) (((List.zipWith maxL mv mv').take k ++ mv.drop k).set k ((maxL x y).take (j + 1) ++ x.drop (j + 1))) by
                    have h := (unhide HII').set_ (k := j) (by rw [unhide HZL]; exact hlj) (cellM mv' k j)
                    have hz := unhide HMJ
                    rw [if_pos hgt2] at hz
                    have e : zs.set j (cellM mv' k j) = (maxL x y).take (j + 1) ++ x.drop (j + 1) := by
                      rw [← unhide HZK, mix_set (by rw [unhide HXL]; exact hlj) hz]
                    have h2 := unhide HUP' _ _ hg9 h (by rw [List.length_set])
                    rw [List.set_set, e] at h2
                    exact h2)
                  have HZ0' := hide (blk_tly_grown (unhide HZ0) (unhide HII') (by decide) hg9)
                  have HZ1' := hide (blk_tly_grown (unhide HZ1) (unhide HII') (by decide) hg9)
                  have HZ2' := hide (blk_tly_grown (unhide HZ2) (unhide HII') (by decide) hg9)
                  clear hg9 HUP' HII' HZ0 HZ1 HZ2
                  go_still_tail 15, (by kernel_rfl)
                  go_wp2_with fail
                  go_roundw
                  case rel => exact ⟨j + 1, by omega, by go_num, (unhide HS9).drew, unhide HZ0', unhide HZ1', unhide HZ2'⟩
                  case measure => simp [intOf]; omega
                · have HS9 := hide (show MState w.heap.size w wr M A2 c2 ug ucap n ((maxL us us').take (k + 1) ++ us.drop (k + 1)) (((List.zipWith maxL mv mv').take k ++ mv.drop k).set k ((maxL x y).take (j + 1) ++ x.drop (j + 1))) by
                    have h := unhide HT1
                    have hz := unhide HMJ
                    rw [if_neg hgt2] at hz
                    rw [mix_same hz (unhide HXJ)] at h
                    exact h)
                  have hgt2' : cellM mv' k j ≤ cellM mv k j := by omega
                  clear hgt2 hML
                  go_wp2_with fail
                  go_quiet (fail)
                  go_wp2_with fail
                  go_roundw
                  case rel => exact ⟨j + 1, by omega, by go_num, (unhide HS9).drewN nq, unhide HW0, unhide HW1, unhide HW2⟩
                  case measure => simp [intOf]; omega
              · obtain rfl : j = n := by omega
                have HFN := hide (show MState w.heap.size w wr M A2 c2 ug ucap j ((maxL us us').take (k + 1) ++ us.drop (k + 1)) ((List.zipWith maxL mv mv').take (k + 1) ++ mv.drop (k + 1)) by
                  have h := unhide HT1
                  rw [List.take_of_length_le (l := maxL x y) (by rw [maxL_len (unhide HXL) (unhide HYL)]; exact Nat.le_refl _), List.drop_of_length_le (l := x) (by rw [unhide HXL]; exact Nat.le_refl _), List.append_nil,
                    mixL_set (by rw [unhide HMN]; exact hlt) (unhide HZM)] at h
                  exact h)
                clear HT1
                go_wp2_with fail
                go_roundw
                case rel => exact ⟨k + 1, by omega, by go_num, HFN, HW0, HW1, HW2⟩
                case measure => simp [intOf]; omega
        · obtain rfl : k = n := by omega
          have HFIN := hide (show MState w.heap.size w wr M A2 c2 ug ucap k (maxL us us') (List.zipWith maxL mv mv') by
            have h := unhide HST
            rw [List.take_of_length_le (by rw [maxL_len (unhide HL1) (unhide HL2)]; exact Nat.le_refl _), List.drop_of_length_le (by rw [unhide HL1]; exact Nat.le_refl _), List.append_nil,
              List.take_of_length_le (by simp [unhide HMN, unhide HMN']), List.drop_of_length_le (by rw [unhide HMN]; exact Nat.le_refl _), List.append_nil] at h
            exact h)
          have m0 : wr.cell? ⟨M, 0, none⟩ = some (.slice A2 k c2) := (unhide HST).blk.cell 0
          have m1 : wr.cell? ⟨M, 1, none⟩ = some (.slice (some ⟨ug, 0, none⟩) k ucap) := (unhide HST).blk.cell 1
          have z0 := (unhide HY2).cell 0
          have z1 := (unhide HY2).cell 1
          have f0 := (unhide HY2).frozen 0
          have f1 := (unhide HY2).frozen 1
          clear HST
          go_wp2_with fail
          have hz1 := (unhide HY2).set_ 0 (.slice A2 k c2)
          have hz2 := hz1.set_ 1 (.slice (some ⟨ug, 0, none⟩) k ucap)
          have y0 := hz2.cell 0
          have y1 := hz2.cell 1
          obtain ⟨t, hv, hok, hmv, huz⟩ := (((unhide HFIN).far (unhide HY2) (by omega) (by omega) 0 (.slice A2 k c2)).far hz1 (by omega) (by omega) 1 (.slice (some ⟨ug, 0, none⟩) k ucap)).read
          refine bodyPost_ret (v := .tuple #[.agg #[.slice A2 k c2, .slice (some ⟨ug, 0, none⟩) k ucap], .int .i64 0]) (by simp [results, Try.results12, go_sem, y0, y1]) rfl ?_
          rw [unhide HF]
          exact ⟨t, by rw [hv], hok, hmv, huz, ((unhide HFIN).below.setCell (by show w.heap.size ≤ w.heap.size + 2; omega) _).setCell (by show w.heap.size ≤ w.heap.size + 2; omega) _⟩
end Go.Proofs.Ytjhgnblakmhncaa
