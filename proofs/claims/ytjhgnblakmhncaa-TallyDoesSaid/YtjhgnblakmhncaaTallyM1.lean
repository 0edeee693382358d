/- The reference's TallyDo. Conditions: none beyond what each theorem states. -/
import Derived.Test.YtjhgnblakmhncaaTallyL
namespace Go.Proofs.Ytjhgnblakmhncaa
open Go.RowKit
set_option linter.unusedVariables false

set_option maxRecDepth 100000 in
set_option maxHeartbeats 8000000 in
theorem tallyDoR_1 (t : Tly) (who dst count : Int) (B : Nat) (w : World) (ht : t.ok w B) (hB : B ≤ w.heap.size) (hg : tallyP t.mv t.u.zs = true) :
    Calls Try.prog 15 #[t.val, .agg #[.int .i64 1, .int .i64 who, .int .i64 dst, .int .i64 count]] w fun e w' => TlyPost w.heap.size (doP t.mv t.u.zs ⟨1, who, dst, count⟩) e w w' := by
  have HGOOD := hide (tallyP_good hg)
  have hun : t.u.n ≤ 9223372036854775807 := by have h1 := ht.2.2.2.2.1; have h2 := ht.2.2.2.2.2.1; unfold maxLen at h2; omega
  have HM := hide (fun W (hW : Below w.heap.size w W) => (tallyMay_ref t B W (ht.below (hW.mono hB)) (Nat.le_trans hB hW.size)))
  have HLF := hide (fun (k : Nat) (hk : k < t.u.zs.length) W (hW : Below w.heap.size w W) => by
    obtain ⟨b, o, ub, uo, h1, h2, h3, h4, h5, h6, h7, _, h8⟩ := tly_grid ht hg
    exact (show Calls Try.prog 21 #[t.val, .int .i64 k] W fun e w' => e = .returned (.int .i64 (leftV t.mv t.u.zs k)) ∧ Below W.heap.size W w' from leftRef_any t B W k _ b o ub uo _ _ (Nat.le_trans hB hW.size) (h8 W (hW.mono hB)) h1 h2 hk h3 h4 h5 h6 h7))
  have HCP := hide (fun W (hW : Below w.heap.size w W) => ownTally_any t B W (ht.below (hW.mono hB)) (Nat.le_trans hB hW.size) hg)
  rw [hg] at HM
  have HTP := hide hg
  have HUN := hide (show t.u.zs.length = t.u.n from ht.2.2.2.1)
  obtain ⟨A, m, c, rs, ⟨uA, n, uc, us⟩⟩ := t
  unfold Tly.val at HM HLF HCP ⊢
  dsimp only at hun HM HLF HCP HTP HUN HGOOD ⊢
  clear ht hg
  generalize Tly.mv ⟨A, m, c, rs, ⟨uA, n, uc, us⟩⟩ = mv at *
  have hn8 : n ≤ 8 := by have := (unhide HGOOD).2.1; rw [unhide HUN] at this; exact this
  have HMN := hide (show mv.length = n by have := (unhide HGOOD).2.2.2.1; rw [unhide HUN] at this; exact this)
  have HMR := hide (show ∀ l ∈ mv, l.length = n from fun l hl => by have := ((unhide HGOOD).2.2.2.2 l hl).1; rw [unhide HUN] at this; exact this)
  have HNU := hide (show ∀ j, j < n → 0 ≤ cellU us j ∧ cellU us j ≤ 1048576 from fun j hj =>
    (unhide HGOOD).2.2.1 _ (List.mem_of_getElem? (cellU_get (by rw [unhide HUN]; exact hj))))
  have HNM := hide (show ∀ i j, i < n → j < n → 0 ≤ cellM mv i j ∧ cellM mv i j ≤ 1048576 from fun i j hi hj => by
    obtain ⟨x, hx⟩ : ∃ x, mv[i]? = some x := ⟨_, List.getElem?_eq_getElem (by rw [unhide HMN]; exact hi)⟩
    exact ((unhide HGOOD).2.2.2.2 x (List.mem_of_getElem? hx)).2 _ (List.mem_of_getElem? (cellM_get hx (by rw [unhide HMR x (List.mem_of_getElem? hx)]; exact hj))))
  obtain ⟨wx, hwx⟩ : ∃ wx, wx = (((w.alloc (.cells #[.slice A m c, .slice uA n uc] 25)).alloc (.cells #[.int .i64 1, .int .i64 who, .int .i64 dst, .int .i64 count] 35)).alloc (.cells #[.slice none 0 0, .slice none 0 0] 25)).alloc (.cells #[.slice none 0 0, .slice none 0 0] 25) := ⟨_, rfl⟩
  have hbx : Below w.heap.size w wx := by rw [hwx]; exact ((((Below.refl _ _).alloc (Nat.le_refl _) _).alloc (by simp) _).alloc (by simp; omega) _).alloc (by simp; omega) _
  have hsx : wx.heap.size = w.heap.size + 4 := by rw [hwx]; simp
  have k0 : Blk wx w.heap.size 25 #[.slice A m c, .slice uA n uc] := by rw [hwx]; exact (((Blk.new w 25 _).alloc _).alloc _).alloc _
  have k1 : Blk wx (w.heap.size + 1) 35 #[.int .i64 1, .int .i64 who, .int .i64 dst, .int .i64 count] := by
    rw [hwx]
    have h := ((Blk.new (w.alloc (.cells #[.slice A m c, .slice uA n uc] 25)) 35 #[.int .i64 1, .int .i64 who, .int .i64 dst, .int .i64 count]).alloc (.cells #[.slice none 0 0, .slice none 0 0] 25)).alloc (.cells #[.slice none 0 0, .slice none 0 0] 25)
    simpa using h
  have k2 : Blk wx (w.heap.size + 2) 25 #[.slice none 0 0, .slice none 0 0] := by
    rw [hwx]
    have h := (Blk.new ((w.alloc (.cells #[.slice A m c, .slice uA n uc] 25)).alloc (.cells #[.int .i64 1, .int .i64 who, .int .i64 dst, .int .i64 count] 35)) 25 #[.slice none 0 0, .slice none 0 0]).alloc (.cells #[.slice none 0 0, .slice none 0 0] 25)
    simpa using h
  have k3 : Blk wx (w.heap.size + 3) 25 #[.slice none 0 0, .slice none 0 0] := by
    rw [hwx]
    have h := Blk.new (((w.alloc (.cells #[.slice A m c, .slice uA n uc] 25)).alloc (.cells #[.int .i64 1, .int .i64 who, .int .i64 dst, .int .i64 count] 35)).alloc (.cells #[.slice none 0 0, .slice none 0 0] 25)) 25 #[.slice none 0 0, .slice none 0 0]
    simpa using h
  have HSX := hide (show w.heap.size + 4 ≤ wx.heap.size by omega)
  have q0 : ∀ W, Below wx.heap.size wx W → W.cell? ⟨w.heap.size, 0, none⟩ = some (.slice A m c) := fun W hW => (Blk.below k0 hW (by omega)).cell 0
  have q1 : ∀ W, Below wx.heap.size wx W → W.cell? ⟨w.heap.size, 1, none⟩ = some (.slice uA n uc) := fun W hW => (Blk.below k0 hW (by omega)).cell 1
  have d0 : ∀ W, Below wx.heap.size wx W → W.cell? ⟨w.heap.size + 1, 0, none⟩ = some (.int .i64 1) := fun W hW => (Blk.below k1 hW (by omega)).cell 0
  have d1 : ∀ W, Below wx.heap.size wx W → W.cell? ⟨w.heap.size + 1, 1, none⟩ = some (.int .i64 who) := fun W hW => (Blk.below k1 hW (by omega)).cell 1
  have d2 : ∀ W, Below wx.heap.size wx W → W.cell? ⟨w.heap.size + 1, 2, none⟩ = some (.int .i64 dst) := fun W hW => (Blk.below k1 hW (by omega)).cell 2
  have d3 : ∀ W, Below wx.heap.size wx W → W.cell? ⟨w.heap.size + 1, 3, none⟩ = some (.int .i64 count) := fun W hW => (Blk.below k1 hW (by omega)).cell 3
  have z0 : ∀ W, Below wx.heap.size wx W → W.cell? ⟨w.heap.size + 2, 0, none⟩ = some (.slice none 0 0) := fun W hW => (Blk.below k2 hW (by omega)).cell 0
  have z1 : ∀ W, Below wx.heap.size wx W → W.cell? ⟨w.heap.size + 2, 1, none⟩ = some (.slice none 0 0) := fun W hW => (Blk.below k2 hW (by omega)).cell 1
  have f0 : ∀ W, Below wx.heap.size wx W → W.frozen? ⟨w.heap.size + 2, 0, none⟩ = false := fun W hW => (Blk.below k2 hW (by omega)).frozen 0
  have f1 : ∀ W, Below wx.heap.size wx W → W.frozen? ⟨w.heap.size + 2, 1, none⟩ = false := fun W hW => (Blk.below k2 hW (by omega)).frozen 1
  have t0 : ∀ W, Below wx.heap.size wx W → W.cell? ⟨w.heap.size + 3, 0, none⟩ = some (.slice none 0 0) := fun W hW => (Blk.below k3 hW (by omega)).cell 0
  have t1 : ∀ W, Below wx.heap.size wx W → W.cell? ⟨w.heap.size + 3, 1, none⟩ = some (.slice none 0 0) := fun W hW => (Blk.below k3 hW (by omega)).cell 1
  have hz0 : Below wx.heap.size wx wx := Below.refl _ _
  have HBX := hide hbx
  have HWX := hide hwx
  have HK0 := hide k0
  have HK1 := hide k1
  have HK2 := hide k2
  have HM' := hide (unhide HM wx hbx)
  clear hbx hwx hsx k0 k1 k2 k3 HM
  by_cases hw9 : who < 0
  · have HF := hide (show doP mv us ⟨1, who, dst, count⟩ = (([], []), 2) by
      unfold doP
      dsimp only
      refine Eq.trans (if_neg (by rw [unhide HTP]; simp)) ?_
      refine Eq.trans (if_neg (by simp)) ?_
      exact if_pos (by left; rw [unhide HUN]; omega))

    go_enter Try.func15, Try.ntmps15
    go_wp2_with fail
    rw [← unhide HWX]
    refine (unhide HM').mono ?_
    rintro _ w1 ⟨rfl, hb1⟩
    have hz1 : Below wx.heap.size wx w1 := hb1
    clear hb1 hz0
    go_wp2_with fail

    have hy0 := Blk.below (unhide HK2) hz1 (by have := unhide HSX; omega)
    have hy1 := hy0.set_ 0 (.slice none 0 0)
    have hy2 := hy1.set_ 1 (.slice none 0 0)
    have y0 := hy2.cell 0
    have y1 := hy2.cell 1
    refine bodyPost_ret (v := .tuple #[.agg #[.slice none 0 0, .slice none 0 0], .int .i64 2]) (by simp [results, Try.results15, go_sem, y0, y1]) rfl ?_
    rw [unhide HF]
    exact ⟨noTly, rfl, noTly_ok _ _, rfl, rfl, (((unhide HBX).trans (hz1.mono (unhide HBX).size)).setCell (by show w.heap.size ≤ w.heap.size + 2; omega) _).setCell (by show w.heap.size ≤ w.heap.size + 2; omega) _⟩
  by_cases hw8 : (n : Int) ≤ who
  · have HF := hide (show doP mv us ⟨1, who, dst, count⟩ = (([], []), 2) by
      unfold doP
      dsimp only
      refine Eq.trans (if_neg (by rw [unhide HTP]; simp)) ?_
      refine Eq.trans (if_neg (by simp)) ?_
      exact if_pos (by left; rw [unhide HUN]; omega))
    have hw0 : 0 ≤ who := by omega
    clear hw9

    go_enter Try.func15, Try.ntmps15
    go_wp2_with fail
    rw [← unhide HWX]
    refine (unhide HM').mono ?_
    rintro _ w1 ⟨rfl, hb1⟩
    have hz1 : Below wx.heap.size wx w1 := hb1
    clear hb1 hz0
    go_wp2_with fail

    have hy0 := Blk.below (unhide HK2) hz1 (by have := unhide HSX; omega)
    have hy1 := hy0.set_ 0 (.slice none 0 0)
    have hy2 := hy1.set_ 1 (.slice none 0 0)
    have y0 := hy2.cell 0
    have y1 := hy2.cell 1
    refine bodyPost_ret (v := .tuple #[.agg #[.slice none 0 0, .slice none 0 0], .int .i64 2]) (by simp [results, Try.results15, go_sem, y0, y1]) rfl ?_
    rw [unhide HF]
    exact ⟨noTly, rfl, noTly_ok _ _, rfl, rfl, (((unhide HBX).trans (hz1.mono (unhide HBX).size)).setCell (by show w.heap.size ≤ w.heap.size + 2; omega) _).setCell (by show w.heap.size ≤ w.heap.size + 2; omega) _⟩
  obtain ⟨k, rfl⟩ := Int.eq_ofNat_of_zero_le (show 0 ≤ who by omega)
  have hkn : k < n := by omega
  have hkn' : (k : Int) < (n : Int) := by omega
  clear hw9 hw8
  by_cases hc1 : count < 1
  · have HF := hide (show doP mv us ⟨1, k, dst, count⟩ = (([], []), 2) by
      unfold doP
      dsimp only
      refine Eq.trans (if_neg (by rw [unhide HTP]; simp)) ?_
      refine Eq.trans (if_neg (by simp)) ?_
      exact if_pos (by right; right; left; exact hc1))

    go_enter Try.func15, Try.ntmps15
    go_wp2_with fail
    rw [← unhide HWX]
    refine (unhide HM').mono ?_
    rintro _ w1 ⟨rfl, hb1⟩
    have hz1 : Below wx.heap.size wx w1 := hb1
    clear hb1 hz0
    go_wp2_with fail

    have hy0 := Blk.below (unhide HK2) hz1 (by have := unhide HSX; omega)
    have hy1 := hy0.set_ 0 (.slice none 0 0)
    have hy2 := hy1.set_ 1 (.slice none 0 0)
    have y0 := hy2.cell 0
    have y1 := hy2.cell 1
    refine bodyPost_ret (v := .tuple #[.agg #[.slice none 0 0, .slice none 0 0], .int .i64 2]) (by simp [results, Try.results15, go_sem, y0, y1]) rfl ?_
    rw [unhide HF]
    exact ⟨noTly, rfl, noTly_ok _ _, rfl, rfl, (((unhide HBX).trans (hz1.mono (unhide HBX).size)).setCell (by show w.heap.size ≤ w.heap.size + 2; omega) _).setCell (by show w.heap.size ≤ w.heap.size + 2; omega) _⟩
  by_cases hc2 : 1048576 < count
  · have HF := hide (show doP mv us ⟨1, k, dst, count⟩ = (([], []), 2) by
      unfold doP
      dsimp only
      refine Eq.trans (if_neg (by rw [unhide HTP]; simp)) ?_
      refine Eq.trans (if_neg (by simp)) ?_
      exact if_pos (by right; right; right; exact hc2))
    have hc1' : 1 ≤ count := by omega
    clear hc1

    go_enter Try.func15, Try.ntmps15
    go_wp2_with fail
    rw [← unhide HWX]
    refine (unhide HM').mono ?_
    rintro _ w1 ⟨rfl, hb1⟩
    have hz1 : Below wx.heap.size wx w1 := hb1
    clear hb1 hz0
    go_wp2_with fail

    have hy0 := Blk.below (unhide HK2) hz1 (by have := unhide HSX; omega)
    have hy1 := hy0.set_ 0 (.slice none 0 0)
    have hy2 := hy1.set_ 1 (.slice none 0 0)
    have y0 := hy2.cell 0
    have y1 := hy2.cell 1
    refine bodyPost_ret (v := .tuple #[.agg #[.slice none 0 0, .slice none 0 0], .int .i64 2]) (by simp [results, Try.results15, go_sem, y0, y1]) rfl ?_
    rw [unhide HF]
    exact ⟨noTly, rfl, noTly_ok _ _, rfl, rfl, (((unhide HBX).trans (hz1.mono (unhide HBX).size)).setCell (by show w.heap.size ≤ w.heap.size + 2; omega) _).setCell (by show w.heap.size ≤ w.heap.size + 2; omega) _⟩
  have hc1' : 1 ≤ count := by omega
  have hc2' : count ≤ 1048576 := by omega
  clear hc1 hc2
  have hx0 := (unhide HNM k k hkn hkn).1
  have hx1 := (unhide HNM k k hkn hkn).2
  by_cases hs : 1048576 < cellM mv k k + count
  · have HF := hide (show doP mv us ⟨1, k, dst, count⟩ = (([], []), 12) by
      unfold doP
      dsimp only
      refine Eq.trans (if_neg (by rw [unhide HTP]; simp)) ?_
      refine Eq.trans (if_neg (by simp)) ?_
      refine Eq.trans (if_neg (by rintro (h | h | h | h); exact h ⟨by omega, by rw [unhide HUN]; omega⟩; exact absurd h.1 (by simp); omega; omega)) ?_
      refine Eq.trans (if_neg (by simp)) ?_
      refine Eq.trans (if_neg (by simp)) ?_
      exact if_pos hs)

    go_enter Try.func15, Try.ntmps15
    go_wp2_with fail
    rw [← unhide HWX]
    refine (unhide HM').mono ?_
    rintro _ w1 ⟨rfl, hb1⟩
    have hz1 : Below wx.heap.size wx w1 := hb1
    clear hb1 hz0
    go_wp2_with fail

    go_quiet (fail)
    go_wp2_with fail
    have hz2 : Below wx.heap.size wx (w1.drewN nq) := below_drewN hz1 nq
    generalize w1.drewN nq = w2 at hz2 ⊢
    clear hz1

    refine (unhide HCP w2 ((unhide HBX).trans (hz2.mono (unhide HBX).size))).mono ?_
    rintro _ w3 ⟨v, u, L, rfl, hOT, hOR, hLz, huz, hb3⟩
    have hz3 : Below wx.heap.size wx w3 := hz2.trans (hb3.mono hz2.size)
    obtain ⟨A2, c2, rfl, hMS⟩ := MState.start (n := n) (World.ownsRow.mono hOT hz2.size) (hOR.mono hz2.size) hLz huz (unhide HUN) (unhide HMN) hz3
    have huv : u.val = .slice (some ⟨u.g, 0, none⟩) n u.cap := orw_val (by rw [huz]; exact unhide HUN)
    rw [huv]
    have HMG := hide (show wx.heap.size ≤ w3.heap.size from hz3.size)
    have hlt0 : w.heap.size < w3.heap.size := by have := unhide HSX; have := hz3.size; omega
    have hlt1 : w.heap.size + 1 < w3.heap.size := by have := unhide HSX; have := hz3.size; omega
    have hlt2 : w.heap.size + 2 < w3.heap.size := by have := unhide HSX; have := hz3.size; omega
    have hlt3 : w.heap.size + 3 < w3.heap.size := by have := unhide HSX; have := hz3.size; omega
    have HMS := hide hMS
    clear hOT hOR hLz huz hb3 hMS huv hz2
    generalize u.g = ug at HMS ⊢
    generalize u.cap = ucap at HMS ⊢
    obtain ⟨_, _, hnuc, hucm0, _, _, _⟩ := (unhide HMS).used
    have hucm : ucap ≤ 9223372036854775807 := by unfold maxLen at hucm0; omega
    clear hucm0
    go_wp2_with fail
    have hzq := (unhide HMS).below
    generalize w3.alloc (.cells #[.slice A2 n c2, .slice (some ⟨ug, 0, none⟩) n ucap] 25) = wq at HMS hzq ⊢
    generalize w3.heap.size = M at HMS HMG hlt0 hlt1 hlt2 hlt3 ⊢
    clear hz3

    obtain ⟨hb, ho, g, cap, zs, T, rfl, hc1, hc2, hcell, hB0, hzc, hcapm, hzk, hI, hupd⟩ := (unhide HMS).row (show k < n by omega)
    have hzl : zs.length = n := unhide HMR _ (List.mem_of_getElem? hzk)
    rw [hzl] at hcell hzc
    unfold maxLen at hc2 hcapm
    have n0 : wq.cell? ⟨M, 0, none⟩ = some (.slice (some ⟨hb, ho, none⟩) n c2) := (unhide HMS).blk.cell 0
    have i1 : wq.cell? ⟨g, k, none⟩ = some (.int .i64 (cellM mv k k)) := hI.cell (cellM_get hzk (by rw [hzl]; omega))
    have j1 : wq.frozen? ⟨g, k, none⟩ = false := IRow.frozen hI _
    have hjn9 : (k : Int) < (n : Int) := by omega
    have hg9 : wq.grownBy (wq.setCell ⟨g, k, none⟩ (.int .i64 (cellM mv k k + count))) (some g) := only_setCell (World.grownBy.refl wq _) (.inl rfl) _
    have HS8 := hide (hupd _ _ hg9 (hI.set_ (k := k) (by rw [hzl]; omega) (cellM mv k k + count)) (by rw [List.length_set]))
    have HZK := hide hzk
    have HZL := hide hzl
    clear hzk hzl hI hupd hg9
    go_still_tail 14, (by kernel_rfl)
    go_wp2_with fail
    have HS9 := hide ((unhide HS8).drew)
    clear HS8 HMS hzq n0 i1 j1 hcell
    generalize (wq.setCell ⟨g, k, none⟩ (.int .i64 (cellM mv k k + count))).drew = wp at HS9 ⊢
    have hzp := (unhide HS9).below
    obtain ⟨hb2, ho2, g2, cap2, zs2, T2, hA2, _, _, hcell2, _, hzc2, hcapm2, hzk2, hI2, _⟩ := (unhide HS9).row (show k < n by omega)
    injection hA2 with hA2
    injection hA2 with hA3 hA4
    subst hA3 hA4
    rw [List.getElem?_set_self (by rw [unhide HMN]; omega)] at hzk2
    injection hzk2 with hzk2
    have n0 : wp.cell? ⟨M, 0, none⟩ = some (.slice (some ⟨hb, ho, none⟩) n c2) := (unhide HS9).blk.cell 0
    have s1 : wp.cell? ⟨g2, k, none⟩ = some (.int .i64 (cellM mv k k + count)) := hI2.cell (by rw [← hzk2]; exact List.getElem?_set_self (by rw [unhide HZL]; omega))
    have hl2 : zs2.length = n := by rw [← hzk2, List.length_set]; exact unhide HZL
    rw [hl2] at hcell2 hzc2
    unfold maxLen at hcapm2
    clear hzk2 hI2 hl2
    go_quiet (fail)
    have HSA := hide ((unhide HS9).drewN nq)
    clear HS9 hzp n0 s1 hcell2
    generalize wp.drewN nq = wy at HSA ⊢
    have HS9 := hide (unhide HSA)
    clear HSA
    have hzy := (unhide HS9).below
    have m0 := (unhide HS9).blk.cell 0
    have m1 := (unhide HS9).blk.cell 1
    have e0 := z0 _ hzy
    have e1 := z1 _ hzy
    have e2 := f0 _ hzy
    have e3 := f1 _ hzy
    have e4 := t0 _ hzy
    have e5 := t1 _ hzy
    go_wp2_with fail

    have hy0 := Blk.below (unhide HK2) hzy (by have := unhide HSX; omega)
    have hy1 := hy0.set_ 0 (.slice none 0 0)
    have hy2 := hy1.set_ 1 (.slice none 0 0)
    have y0 := hy2.cell 0
    have y1 := hy2.cell 1
    refine bodyPost_ret (v := .tuple #[.agg #[.slice none 0 0, .slice none 0 0], .int .i64 12]) (by simp [results, Try.results15, go_sem, y0, y1]) rfl ?_
    rw [unhide HF]
    exact ⟨noTly, rfl, noTly_ok _ _, rfl, rfl, (((unhide HBX).trans (hzy.mono (unhide HBX).size)).setCell (by show w.heap.size ≤ w.heap.size + 2; omega) _).setCell (by show w.heap.size ≤ w.heap.size + 2; omega) _⟩
  have hs' : cellM mv k k + count ≤ 1048576 := by omega
  have HF := hide (show doP mv us ⟨1, k, dst, count⟩ = ((mv.set k ((mv.getD k []).set k (cellM mv k k + count)), us), 0) by
    unfold doP
    dsimp only
    refine Eq.trans (if_neg (by rw [unhide HTP]; simp)) ?_
    refine Eq.trans (if_neg (by simp)) ?_
    refine Eq.trans (if_neg (by rintro (h | h | h | h); exact h ⟨by omega, by rw [unhide HUN]; omega⟩; exact absurd h.1 (by simp); omega; omega)) ?_
    refine Eq.trans (if_neg (by simp)) ?_
    refine Eq.trans (if_neg (by simp)) ?_
    exact if_neg hs)
  clear hs

  go_enter Try.func15, Try.ntmps15
  go_wp2_with fail
  rw [← unhide HWX]
  refine (unhide HM').mono ?_
  rintro _ w1 ⟨rfl, hb1⟩
  have hz1 : Below wx.heap.size wx w1 := hb1
  clear hb1 hz0
  go_wp2_with fail

  go_quiet (fail)
  go_wp2_with fail
  have hz2 : Below wx.heap.size wx (w1.drewN nq) := below_drewN hz1 nq
  generalize w1.drewN nq = w2 at hz2 ⊢
  clear hz1

  refine (unhide HCP w2 ((unhide HBX).trans (hz2.mono (unhide HBX).size))).mono ?_
  rintro _ w3 ⟨v, u, L, rfl, hOT, hOR, hLz, huz, hb3⟩
  have hz3 : Below wx.heap.size wx w3 := hz2.trans (hb3.mono hz2.size)
  obtain ⟨A2, c2, rfl, hMS⟩ := MState.start (n := n) (World.ownsRow.mono hOT hz2.size) (hOR.mono hz2.size) hLz huz (unhide HUN) (unhide HMN) hz3
  have huv : u.val = .slice (some ⟨u.g, 0, none⟩) n u.cap := orw_val (by rw [huz]; exact unhide HUN)
  rw [huv]
  have HMG := hide (show wx.heap.size ≤ w3.heap.size from hz3.size)
  have hlt0 : w.heap.size < w3.heap.size := by have := unhide HSX; have := hz3.size; omega
  have hlt1 : w.heap.size + 1 < w3.heap.size := by have := unhide HSX; have := hz3.size; omega
  have hlt2 : w.heap.size + 2 < w3.heap.size := by have := unhide HSX; have := hz3.size; omega
  have hlt3 : w.heap.size + 3 < w3.heap.size := by have := unhide HSX; have := hz3.size; omega
  have HMS := hide hMS
  clear hOT hOR hLz huz hb3 hMS huv hz2
  generalize u.g = ug at HMS ⊢
  generalize u.cap = ucap at HMS ⊢
  obtain ⟨_, _, hnuc, hucm0, _, _, _⟩ := (unhide HMS).used
  have hucm : ucap ≤ 9223372036854775807 := by unfold maxLen at hucm0; omega
  clear hucm0
  go_wp2_with fail
  have hzq := (unhide HMS).below
  generalize w3.alloc (.cells #[.slice A2 n c2, .slice (some ⟨ug, 0, none⟩) n ucap] 25) = wq at HMS hzq ⊢
  generalize w3.heap.size = M at HMS HMG hlt0 hlt1 hlt2 hlt3 ⊢
  clear hz3

  obtain ⟨hb, ho, g, cap, zs, T, rfl, hc1, hc2, hcell, hB0, hzc, hcapm, hzk, hI, hupd⟩ := (unhide HMS).row (show k < n by omega)
  have hzl : zs.length = n := unhide HMR _ (List.mem_of_getElem? hzk)
  rw [hzl] at hcell hzc
  unfold maxLen at hc2 hcapm
  have n0 : wq.cell? ⟨M, 0, none⟩ = some (.slice (some ⟨hb, ho, none⟩) n c2) := (unhide HMS).blk.cell 0
  have i1 : wq.cell? ⟨g, k, none⟩ = some (.int .i64 (cellM mv k k)) := hI.cell (cellM_get hzk (by rw [hzl]; omega))
  have j1 : wq.frozen? ⟨g, k, none⟩ = false := IRow.frozen hI _
  have hjn9 : (k : Int) < (n : Int) := by omega
  have hg9 : wq.grownBy (wq.setCell ⟨g, k, none⟩ (.int .i64 (cellM mv k k + count))) (some g) := only_setCell (World.grownBy.refl wq _) (.inl rfl) _
  have HS8 := hide (hupd _ _ hg9 (hI.set_ (k := k) (by rw [hzl]; omega) (cellM mv k k + count)) (by rw [List.length_set]))
  have HZK := hide hzk
  have HZL := hide hzl
  clear hzk hzl hI hupd hg9
  go_still_tail 14, (by kernel_rfl)
  go_wp2_with fail
  have HS9 := hide ((unhide HS8).drew)
  clear HS8 HMS hzq n0 i1 j1 hcell
  generalize (wq.setCell ⟨g, k, none⟩ (.int .i64 (cellM mv k k + count))).drew = wp at HS9 ⊢
  have hzp := (unhide HS9).below
  obtain ⟨hb2, ho2, g2, cap2, zs2, T2, hA2, _, _, hcell2, _, hzc2, hcapm2, hzk2, hI2, _⟩ := (unhide HS9).row (show k < n by omega)
  injection hA2 with hA2
  injection hA2 with hA3 hA4
  subst hA3 hA4
  rw [List.getElem?_set_self (by rw [unhide HMN]; omega)] at hzk2
  injection hzk2 with hzk2
  have n0 : wp.cell? ⟨M, 0, none⟩ = some (.slice (some ⟨hb, ho, none⟩) n c2) := (unhide HS9).blk.cell 0
  have s1 : wp.cell? ⟨g2, k, none⟩ = some (.int .i64 (cellM mv k k + count)) := hI2.cell (by rw [← hzk2]; exact List.getElem?_set_self (by rw [unhide HZL]; omega))
  have hl2 : zs2.length = n := by rw [← hzk2, List.length_set]; exact unhide HZL
  rw [hl2] at hcell2 hzc2
  unfold maxLen at hcapm2
  clear hzk2 hI2 hl2
  go_quiet (fail)
  have HSA := hide ((unhide HS9).drewN nq)
  clear HS9 hzp n0 s1 hcell2
  generalize wp.drewN nq = wy at HSA ⊢
  have HS9 := hide (unhide HSA)
  clear HSA
  have hzy := (unhide HS9).below
  have m0 := (unhide HS9).blk.cell 0
  have m1 := (unhide HS9).blk.cell 1
  have e0 := z0 _ hzy
  have e1 := z1 _ hzy
  have e2 := f0 _ hzy
  have e3 := f1 _ hzy
  have e4 := t0 _ hzy
  have e5 := t1 _ hzy
  go_wp2_with fail
  have HZM := hide (show mv.getD k [] = zs by rw [List.getD_eq_getElem?_getD, unhide HZK]; rfl)
  rw [unhide HZM] at HF

  have hy0 := Blk.below (unhide HK2) hzy (by have := unhide HSX; omega)
  have hy1 := hy0.set_ 0 (.slice (some ⟨hb, ho, none⟩) n c2)
  have hy2 := hy1.set_ 1 (.slice (some ⟨ug, 0, none⟩) n ucap)
  have y0 := hy2.cell 0
  have y1 := hy2.cell 1
  have hMM := unhide HMG
  have hSS := unhide HSX
  obtain ⟨t, hv, hok, hmv, huz⟩ := (((unhide HS9).weak (unhide HBX) (unhide HBX).size).far hy0 (by omega) (by omega) 0 (.slice (some ⟨hb, ho, none⟩) n c2) |>.far hy1 (by omega) (by omega) 1 (.slice (some ⟨ug, 0, none⟩) n ucap)).read
  refine bodyPost_ret (v := .tuple #[.agg #[.slice (some ⟨hb, ho, none⟩) n c2, .slice (some ⟨ug, 0, none⟩) n ucap], .int .i64 0]) (by simp [results, Try.results15, go_sem, y0, y1]) rfl ?_
  rw [unhide HF]
  exact ⟨t, by rw [hv], hok, hmv, huz, (((unhide HBX).trans (hzy.mono (unhide HBX).size)).setCell (by show w.heap.size ≤ w.heap.size + 2; omega) _).setCell (by show w.heap.size ≤ w.heap.size + 2; omega) _⟩
end Go.Proofs.Ytjhgnblakmhncaa
