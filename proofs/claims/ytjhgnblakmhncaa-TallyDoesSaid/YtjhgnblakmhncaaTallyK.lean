/- Contract of tally.Do. Conditions: none beyond what each theorem states. -/
import Derived.Test.YtjhgnblakmhncaaTallyI
namespace Go.Proofs.Ytjhgnblakmhncaa
open Go.RowKit
set_option linter.unusedVariables false

structure Dd where
  kind : Int
  who : Int
  dst : Int
  count : Int
def doP (mv : List (List Int)) (us : List Int) (d : Dd) : (List (List Int) × List Int) × Int :=
  if tallyP mv us = false then (([], []), 4)
  else if d.kind < 1 ∨ 3 < d.kind then (([], []), 3)
  else if ¬ (0 ≤ d.who ∧ d.who < us.length) ∨ (d.kind = 2 ∧ (¬ (0 ≤ d.dst ∧ d.dst < us.length) ∨ d.dst = d.who)) ∨ d.count < 1 ∨ 1048576 < d.count then (([], []), 2)
  else if d.kind ≠ 1 ∧ leftV mv us d.who.toNat < d.count then (([], []), 9)
  else if d.kind = 3 then (if 1048576 < cellU us d.who.toNat + d.count then (([], []), 12) else ((mv, us.set d.who.toNat (cellU us d.who.toNat + d.count)), 0))
  else if 1048576 < cellM mv d.who.toNat (if d.kind = 1 then d.who.toNat else d.dst.toNat) + d.count then (([], []), 12)
  else ((mv.set d.who.toNat ((mv.getD d.who.toNat []).set (if d.kind = 1 then d.who.toNat else d.dst.toNat) (cellM mv d.who.toNat (if d.kind = 1 then d.who.toNat else d.dst.toNat) + d.count)), us), 0)

theorem MState.weak {B0 B1 : Nat} {w0 w1 wr : World} {M : Nat} {A : Option Addr} {c ug uc n : Nat} {us : List Int} {mv : List (List Int)} (h : MState B0 w0 wr M A c ug uc n us mv) (hb : Below B1 w1 w0) (hB : B1 ≤ B0) : MState B1 w1 wr M A c ug uc n us mv := by
  obtain ⟨u, L, h1, h2, h3, h4, h5, h6, h7, h8, h9, h10⟩ := h
  exact ⟨u, L, h1, h2, h3, h4, h5, h6, h7, World.ownsRow.mono h8 hB, h9.mono hB, hb.trans (h10.mono hB)⟩

set_option maxHeartbeats 8000000 in
theorem tallyDo_3 (t : Tly) (who dst count : Int) (B : Nat) (w : World) (ht : t.ok w B) (hB : B ≤ w.heap.size) (hg : tallyP t.mv t.u.zs = true) :
    Calls Try.prog 14 #[t.val, .agg #[.int .i64 3, .int .i64 who, .int .i64 dst, .int .i64 count]] w fun e w' => TlyPost w.heap.size (doP t.mv t.u.zs ⟨3, who, dst, count⟩) e w w' := by
  have HGOOD := hide (tallyP_good hg)
  have hun : t.u.n ≤ 9223372036854775807 := by have h1 := ht.2.2.2.2.1; have h2 := ht.2.2.2.2.2.1; unfold maxLen at h2; omega
  have HM := hide (fun W (hW : Below w.heap.size w W) => (tallyMay_any t B W (ht.below (hW.mono hB)) (Nat.le_trans hB hW.size)))
  have HTH := hide (fun (z : Int) W => there_any t z W hun)
  have HLF := hide (fun (k : Nat) (hk : k < t.u.zs.length) W (hW : Below w.heap.size w W) => by
    obtain ⟨b, o, ub, uo, h1, h2, h3, h4, h5, h6, h7, _, h8⟩ := tly_grid ht hg
    exact (show Calls Try.prog 20 #[t.val, .int .i64 k] W fun e w' => e = .returned (.int .i64 (leftV t.mv t.u.zs k)) ∧ Below W.heap.size W w' from left_any t B W k _ b o ub uo _ _ (Nat.le_trans hB hW.size) (h8 W (hW.mono hB)) h1 h2 hk h3 h4 h5 h6 h7))
  have HCP := hide (fun W (hW : Below w.heap.size w W) => copied_any t B W (ht.below (hW.mono hB)) (Nat.le_trans hB hW.size) hg)
  rw [hg] at HM
  have HTP := hide hg
  have HUN := hide (show t.u.zs.length = t.u.n from ht.2.2.2.1)
  obtain ⟨A, m, c, rs, ⟨uA, n, uc, us⟩⟩ := t
  unfold Tly.val at HM HTH HLF HCP ⊢
  dsimp only at hun HM HTH HLF HCP HTP HUN HGOOD ⊢
  clear ht hg
  generalize Tly.mv ⟨A, m, c, rs, ⟨uA, n, uc, us⟩⟩ = mv at *
  have hn8 : n ≤ 8 := by have := (unhide HGOOD).2.1; rw [unhide HUN] at this; exact this
  have HMN := hide (show mv.length = n by have := (unhide HGOOD).2.2.2.1; rw [unhide HUN] at this; exact this)
  have HMR := hide (show ∀ l ∈ mv, l.length = n from fun l hl => by have := ((unhide HGOOD).2.2.2.2 l hl).1; rw [unhide HUN] at this; exact this)
  have HNU := hide (show ∀ j, j < n → 0 ≤ cellU us j ∧ cellU us j ≤ 1048576 from fun j hj =>
    (unhide HGOOD).2.2.1 _ (List.mem_of_getElem? (cellU_get (by rw [unhide HUN]; exact hj))))
  have HNM := hide (show ∀ i j, i < n → j < n → 0 ≤ cellM mv i j ∧ cellM mv i j ≤ 1048576 from fun i j hi hj => by
    obtain ⟨x, hx⟩ : ∃ x, mv[i]? = some x := ⟨_, List.getElem?_eq_getElem (by rw [unhide HMN]; exact hi)⟩
    exact ((unhide HGOOD).2.2.2.2 x (List.mem_of_getElem? hx)).2 _ (List.mem_of_getElem? (cellM_get hx (by rw [unhide HMR x (List.mem_of_getElem? hx)]; exact hj))))
  obtain ⟨wx, hwx⟩ : ∃ wx, wx = ((w.alloc (.cells #[.slice A m c, .slice uA n uc] 25)).alloc (.cells #[.int .i64 3, .int .i64 who, .int .i64 dst, .int .i64 count] 35)).alloc (.cells #[.slice none 0 0, .slice none 0 0] 25) := ⟨_, rfl⟩
  have hbx : Below w.heap.size w wx := by rw [hwx]; exact (((Below.refl _ _).alloc (Nat.le_refl _) _).alloc (by simp) _).alloc (by simp; omega) _
  have hsx : wx.heap.size = w.heap.size + 3 := by rw [hwx]; simp
  have k0 : Blk wx w.heap.size 25 #[.slice A m c, .slice uA n uc] := by rw [hwx]; exact ((Blk.new w 25 _).alloc _).alloc _
  have k1 : Blk wx (w.heap.size + 1) 35 #[.int .i64 3, .int .i64 who, .int .i64 dst, .int .i64 count] := by
    rw [hwx]
    have h := (Blk.new (w.alloc (.cells #[.slice A m c, .slice uA n uc] 25)) 35 #[.int .i64 3, .int .i64 who, .int .i64 dst, .int .i64 count]).alloc (.cells #[.slice none 0 0, .slice none 0 0] 25)
    simpa using h
  have k2 : Blk wx (w.heap.size + 2) 25 #[.slice none 0 0, .slice none 0 0] := by
    rw [hwx]
    have h := Blk.new ((w.alloc (.cells #[.slice A m c, .slice uA n uc] 25)).alloc (.cells #[.int .i64 3, .int .i64 who, .int .i64 dst, .int .i64 count] 35)) 25 #[.slice none 0 0, .slice none 0 0]
    simpa using h
  have HSX := hide (show w.heap.size + 3 ≤ wx.heap.size by omega)
  have q0 : ∀ W, Below wx.heap.size wx W → W.cell? ⟨w.heap.size, 0, none⟩ = some (.slice A m c) := fun W hW => (Blk.below k0 hW (by omega)).cell 0
  have q1 : ∀ W, Below wx.heap.size wx W → W.cell? ⟨w.heap.size, 1, none⟩ = some (.slice uA n uc) := fun W hW => (Blk.below k0 hW (by omega)).cell 1
  have d0 : ∀ W, Below wx.heap.size wx W → W.cell? ⟨w.heap.size + 1, 0, none⟩ = some (.int .i64 3) := fun W hW => (Blk.below k1 hW (by omega)).cell 0
  have d1 : ∀ W, Below wx.heap.size wx W → W.cell? ⟨w.heap.size + 1, 1, none⟩ = some (.int .i64 who) := fun W hW => (Blk.below k1 hW (by omega)).cell 1
  have d2 : ∀ W, Below wx.heap.size wx W → W.cell? ⟨w.heap.size + 1, 2, none⟩ = some (.int .i64 dst) := fun W hW => (Blk.below k1 hW (by omega)).cell 2
  have d3 : ∀ W, Below wx.heap.size wx W → W.cell? ⟨w.heap.size + 1, 3, none⟩ = some (.int .i64 count) := fun W hW => (Blk.below k1 hW (by omega)).cell 3
  have z0 : ∀ W, Below wx.heap.size wx W → W.cell? ⟨w.heap.size + 2, 0, none⟩ = some (.slice none 0 0) := fun W hW => (Blk.below k2 hW (by omega)).cell 0
  have z1 : ∀ W, Below wx.heap.size wx W → W.cell? ⟨w.heap.size + 2, 1, none⟩ = some (.slice none 0 0) := fun W hW => (Blk.below k2 hW (by omega)).cell 1
  have f0 : ∀ W, Below wx.heap.size wx W → W.frozen? ⟨w.heap.size + 2, 0, none⟩ = false := fun W hW => (Blk.below k2 hW (by omega)).frozen 0
  have f1 : ∀ W, Below wx.heap.size wx W → W.frozen? ⟨w.heap.size + 2, 1, none⟩ = false := fun W hW => (Blk.below k2 hW (by omega)).frozen 1
  have hz0 : Below wx.heap.size wx wx := Below.refl _ _
  have HBX := hide hbx
  have HWX := hide hwx
  have HK0 := hide k0
  have HK1 := hide k1
  have HK2 := hide k2
  have HM' := hide (unhide HM wx hbx)
  clear hbx hwx hsx k0 k1 k2 HM
  by_cases hw : 0 ≤ who ∧ who < (n : Int)
  rotate_left
  · have HTW := hide (show (decide ((0 : Int) ≤ who) && decide (who < (n : Int))) = false by simp; omega)
    have HF := hide (show doP mv us ⟨3, who, dst, count⟩ = (([], []), 2) by
      unfold doP
      dsimp only
      refine Eq.trans (if_neg (by rw [unhide HTP]; simp)) ?_
      refine Eq.trans (if_neg (by simp)) ?_
      exact if_pos (by left; rw [unhide HUN]; exact hw))
    clear hw

    go_enter Try.func14, Try.ntmps14
    go_wp2_with fail
    rw [← unhide HWX]
    refine (unhide HM').mono ?_
    rintro _ w1 ⟨rfl, hb1⟩
    have hz1 : Below wx.heap.size wx w1 := hb1
    clear hb1 hz0
    go_wp2_with fail

    refine ((unhide HTH who w1).mono fun e w' he => (show e = .returned (.bool false) ∧ Below w1.heap.size w1 w' from ⟨by rw [he.1, unhide HTW], he.2⟩)).mono ?_
    rintro _ w2 ⟨rfl, hb2⟩
    have hz2 : Below wx.heap.size wx w2 := hz1.trans (hb2.mono hz1.size)
    clear hb2 hz1
    go_wp2_with fail

    have hy0 := Blk.below (unhide HK2) hz2 (by have := unhide HSX; omega)
    have hy1 := hy0.set_ 0 (.slice none 0 0)
    have hy2 := hy1.set_ 1 (.slice none 0 0)
    have y0 := hy2.cell 0
    have y1 := hy2.cell 1
    refine bodyPost_ret (v := .tuple #[.agg #[.slice none 0 0, .slice none 0 0], .int .i64 2]) (by simp [results, Try.results14, go_sem, y0, y1]) rfl ?_
    rw [unhide HF]
    exact ⟨noTly, rfl, noTly_ok _ _, rfl, rfl, (((unhide HBX).trans (hz2.mono (unhide HBX).size)).setCell (by show w.heap.size ≤ w.heap.size + 2; omega) _).setCell (by show w.heap.size ≤ w.heap.size + 2; omega) _⟩
  obtain ⟨k, rfl⟩ := Int.eq_ofNat_of_zero_le hw.1
  have hkn : k < n := by omega
  have hkn' : (k : Int) < (n : Int) := by omega
  have HTW := hide (show (decide ((0 : Int) ≤ (k : Int)) && decide ((k : Int) < (n : Int))) = true by simp; omega)
  clear hw
  by_cases hc1 : count < 1
  · have HF := hide (show doP mv us ⟨3, k, dst, count⟩ = (([], []), 2) by
      unfold doP
      dsimp only
      refine Eq.trans (if_neg (by rw [unhide HTP]; simp)) ?_
      refine Eq.trans (if_neg (by simp)) ?_
      exact if_pos (by right; right; left; exact hc1))

    go_enter Try.func14, Try.ntmps14
    go_wp2_with fail
    rw [← unhide HWX]
    refine (unhide HM').mono ?_
    rintro _ w1 ⟨rfl, hb1⟩
    have hz1 : Below wx.heap.size wx w1 := hb1
    clear hb1 hz0
    go_wp2_with fail

    refine ((unhide HTH k w1).mono fun e w' he => (show e = .returned (.bool true) ∧ Below w1.heap.size w1 w' from ⟨by rw [he.1, unhide HTW], he.2⟩)).mono ?_
    rintro _ w2 ⟨rfl, hb2⟩
    have hz2 : Below wx.heap.size wx w2 := hz1.trans (hb2.mono hz1.size)
    clear hb2 hz1
    go_wp2_with fail

    have hy0 := Blk.below (unhide HK2) hz2 (by have := unhide HSX; omega)
    have hy1 := hy0.set_ 0 (.slice none 0 0)
    have hy2 := hy1.set_ 1 (.slice none 0 0)
    have y0 := hy2.cell 0
    have y1 := hy2.cell 1
    refine bodyPost_ret (v := .tuple #[.agg #[.slice none 0 0, .slice none 0 0], .int .i64 2]) (by simp [results, Try.results14, go_sem, y0, y1]) rfl ?_
    rw [unhide HF]
    exact ⟨noTly, rfl, noTly_ok _ _, rfl, rfl, (((unhide HBX).trans (hz2.mono (unhide HBX).size)).setCell (by show w.heap.size ≤ w.heap.size + 2; omega) _).setCell (by show w.heap.size ≤ w.heap.size + 2; omega) _⟩
  by_cases hc2 : 1048576 < count
  · have HF := hide (show doP mv us ⟨3, k, dst, count⟩ = (([], []), 2) by
      unfold doP
      dsimp only
      refine Eq.trans (if_neg (by rw [unhide HTP]; simp)) ?_
      refine Eq.trans (if_neg (by simp)) ?_
      exact if_pos (by right; right; right; exact hc2))
    have hc1' : 1 ≤ count := by omega
    clear hc1

    go_enter Try.func14, Try.ntmps14
    go_wp2_with fail
    rw [← unhide HWX]
    refine (unhide HM').mono ?_
    rintro _ w1 ⟨rfl, hb1⟩
    have hz1 : Below wx.heap.size wx w1 := hb1
    clear hb1 hz0
    go_wp2_with fail

    refine ((unhide HTH k w1).mono fun e w' he => (show e = .returned (.bool true) ∧ Below w1.heap.size w1 w' from ⟨by rw [he.1, unhide HTW], he.2⟩)).mono ?_
    rintro _ w2 ⟨rfl, hb2⟩
    have hz2 : Below wx.heap.size wx w2 := hz1.trans (hb2.mono hz1.size)
    clear hb2 hz1
    go_wp2_with fail

    have hy0 := Blk.below (unhide HK2) hz2 (by have := unhide HSX; omega)
    have hy1 := hy0.set_ 0 (.slice none 0 0)
    have hy2 := hy1.set_ 1 (.slice none 0 0)
    have y0 := hy2.cell 0
    have y1 := hy2.cell 1
    refine bodyPost_ret (v := .tuple #[.agg #[.slice none 0 0, .slice none 0 0], .int .i64 2]) (by simp [results, Try.results14, go_sem, y0, y1]) rfl ?_
    rw [unhide HF]
    exact ⟨noTly, rfl, noTly_ok _ _, rfl, rfl, (((unhide HBX).trans (hz2.mono (unhide HBX).size)).setCell (by show w.heap.size ≤ w.heap.size + 2; omega) _).setCell (by show w.heap.size ≤ w.heap.size + 2; omega) _⟩
  have hc1' : 1 ≤ count := by omega
  have hc2' : count ≤ 1048576 := by omega
  clear hc1 hc2
  by_cases hl : leftV mv us k < count
  · have HF := hide (show doP mv us ⟨3, k, dst, count⟩ = (([], []), 9) by
      unfold doP
      dsimp only
      refine Eq.trans (if_neg (by rw [unhide HTP]; simp)) ?_
      refine Eq.trans (if_neg (by simp)) ?_
      refine Eq.trans (if_neg (by rintro (h | h | h | h); exact h ⟨by omega, by rw [unhide HUN]; omega⟩; exact absurd h.1 (by simp); omega; omega)) ?_
      exact if_pos ⟨by simp, hl⟩)

    go_enter Try.func14, Try.ntmps14
    go_wp2_with fail
    rw [← unhide HWX]
    refine (unhide HM').mono ?_
    rintro _ w1 ⟨rfl, hb1⟩
    have hz1 : Below wx.heap.size wx w1 := hb1
    clear hb1 hz0
    go_wp2_with fail

    refine ((unhide HTH k w1).mono fun e w' he => (show e = .returned (.bool true) ∧ Below w1.heap.size w1 w' from ⟨by rw [he.1, unhide HTW], he.2⟩)).mono ?_
    rintro _ w2 ⟨rfl, hb2⟩
    have hz2 : Below wx.heap.size wx w2 := hz1.trans (hb2.mono hz1.size)
    clear hb2 hz1
    go_wp2_with fail

    have hext : ∀ n : Ext w2, Below wx.heap.size wx n.W := fun n => hz2.trans (n.h.mono hz2.size)
    have HL' := hide (fun n : Ext w2 => unhide HLF k (by rw [unhide HUN]; omega) n.W ((unhide HBX).trans ((hext n).mono (unhide HBX).size)))
    refine wp_region_calm (by kernel_rfl) (by kernel_rfl) ?_
    repeat (go_big_quiet_step ((go_at_call 20; exact calm_call (unhide HL' _))))
    refine wpQuiet_nil ?_
    rintro _ ⟨nq, rfl⟩
    have hz3 : Below wx.heap.size wx nq.W := hext nq
    generalize nq.W = w3 at hz3 ⊢
    clear hext HL' hz2
    go_wp2_with fail

    have hy0 := Blk.below (unhide HK2) hz3 (by have := unhide HSX; omega)
    have hy1 := hy0.set_ 0 (.slice none 0 0)
    have hy2 := hy1.set_ 1 (.slice none 0 0)
    have y0 := hy2.cell 0
    have y1 := hy2.cell 1
    refine bodyPost_ret (v := .tuple #[.agg #[.slice none 0 0, .slice none 0 0], .int .i64 9]) (by simp [results, Try.results14, go_sem, y0, y1]) rfl ?_
    rw [unhide HF]
    exact ⟨noTly, rfl, noTly_ok _ _, rfl, rfl, (((unhide HBX).trans (hz3.mono (unhide HBX).size)).setCell (by show w.heap.size ≤ w.heap.size + 2; omega) _).setCell (by show w.heap.size ≤ w.heap.size + 2; omega) _⟩
  have hl' : count ≤ leftV mv us k := by omega
  have HL := hide hl
  clear hl
  have hx0 := (unhide HNU k hkn).1
  have hx1 := (unhide HNU k hkn).2
  by_cases hs : 1048576 < cellU us k + count
  · have HF := hide (show doP mv us ⟨3, k, dst, count⟩ = (([], []), 12) by
      unfold doP
      dsimp only
      refine Eq.trans (if_neg (by rw [unhide HTP]; simp)) ?_
      refine Eq.trans (if_neg (by simp)) ?_
      refine Eq.trans (if_neg (by rintro (h | h | h | h); exact h ⟨by omega, by rw [unhide HUN]; omega⟩; exact absurd h.1 (by simp); omega; omega)) ?_
      refine Eq.trans (if_neg (fun h => unhide HL h.2)) ?_
      refine Eq.trans (if_pos rfl) ?_
      exact if_pos hs)

    go_enter Try.func14, Try.ntmps14
    go_wp2_with fail
    rw [← unhide HWX]
    refine (unhide HM').mono ?_
    rintro _ w1 ⟨rfl, hb1⟩
    have hz1 : Below wx.heap.size wx w1 := hb1
    clear hb1 hz0
    go_wp2_with fail

    refine ((unhide HTH k w1).mono fun e w' he => (show e = .returned (.bool true) ∧ Below w1.heap.size w1 w' from ⟨by rw [he.1, unhide HTW], he.2⟩)).mono ?_
    rintro _ w2 ⟨rfl, hb2⟩
    have hz2 : Below wx.heap.size wx w2 := hz1.trans (hb2.mono hz1.size)
    clear hb2 hz1
    go_wp2_with fail

    have hext : ∀ n : Ext w2, Below wx.heap.size wx n.W := fun n => hz2.trans (n.h.mono hz2.size)
    have HL' := hide (fun n : Ext w2 => unhide HLF k (by rw [unhide HUN]; omega) n.W ((unhide HBX).trans ((hext n).mono (unhide HBX).size)))
    refine wp_region_calm (by kernel_rfl) (by kernel_rfl) ?_
    repeat (go_big_quiet_step ((go_at_call 20; exact calm_call (unhide HL' _))))
    refine wpQuiet_nil ?_
    rintro _ ⟨nq, rfl⟩
    have hz3 : Below wx.heap.size wx nq.W := hext nq
    generalize nq.W = w3 at hz3 ⊢
    clear hext HL' hz2
    go_wp2_with fail

    refine (unhide HCP w3 ((unhide HBX).trans (hz3.mono (unhide HBX).size))).mono ?_
    rintro _ w4 ⟨v, u, L, rfl, hOT, hOR, hLz, huz, hb4⟩
    have hz4 : Below wx.heap.size wx w4 := hz3.trans (hb4.mono hz3.size)
    obtain ⟨A2, c2, rfl, hMS⟩ := MState.start (n := n) (World.ownsRow.mono hOT hz3.size) (hOR.mono hz3.size) hLz huz (unhide HUN) (unhide HMN) hz4
    have huv : u.val = .slice (some ⟨u.g, 0, none⟩) n u.cap := orw_val (by rw [huz]; exact unhide HUN)
    rw [huv]
    have HMG := hide (show wx.heap.size ≤ w4.heap.size from hz4.size)
    have hlt0 : w.heap.size < w4.heap.size := by have := unhide HSX; have := hz4.size; omega
    have hlt1 : w.heap.size + 1 < w4.heap.size := by have := unhide HSX; have := hz4.size; omega
    have hlt2 : w.heap.size + 2 < w4.heap.size := by have := unhide HSX; have := hz4.size; omega
    have HMS := hide hMS
    clear hOT hOR hLz huz hb4 hMS huv hz3
    generalize u.g = ug at HMS ⊢
    generalize u.cap = ucap at HMS ⊢
    obtain ⟨_, _, hnuc, hucm0, _, _, _⟩ := (unhide HMS).used
    have hucm : ucap ≤ 9223372036854775807 := by unfold maxLen at hucm0; omega
    clear hucm0
    go_wp2_with fail
    have hzq := (unhide HMS).below
    generalize w4.alloc (.cells #[.slice A2 n c2, .slice (some ⟨ug, 0, none⟩) n ucap] 25) = wq at HMS hzq ⊢
    generalize w4.heap.size = M at HMS HMG hlt0 hlt1 hlt2 ⊢
    clear hz4

    obtain ⟨T, hB0, _, _, hul, hI, hupd⟩ := (unhide HMS).used
    have i1 : wq.cell? ⟨ug, k, none⟩ = some (.int .i64 (cellU us k)) := hI.cell (cellU_get (by rw [hul]; omega))
    have j1 : wq.frozen? ⟨ug, k, none⟩ = false := IRow.frozen hI _
    have hg9 : wq.grownBy (wq.setCell ⟨ug, k, none⟩ (.int .i64 (cellU us k + count))) (some ug) := only_setCell (World.grownBy.refl wq _) (.inl rfl) _
    have HS9 := hide (hupd _ _ hg9 (hI.set_ (by rw [hul]; omega) _) (by rw [List.length_set]; exact hul))
    have s1 := (hI.set_ (k := k) (by rw [hul]; omega) (cellU us k + count)).cell (k := k) (List.getElem?_set_self (by rw [hul]; omega))
    clear hul hI hupd hg9
    have hzy := (unhide HS9).below
    have m0 := (unhide HS9).blk.cell 0
    have m1 := (unhide HS9).blk.cell 1
    have e0 := z0 _ hzy
    have e1 := z1 _ hzy
    have e2 := f0 _ hzy
    have e3 := f1 _ hzy
    go_still_tail 7, (by kernel_rfl)
    go_wp2_with fail
    generalize (wq.setCell ⟨ug, k, none⟩ (.int .i64 (cellU us k + count))) = wy at HS9 hzy e0 e1 e2 e3 m0 m1 s1 ⊢

    have hy0 := Blk.below (unhide HK2) hzy (by have := unhide HSX; omega)
    have hy1 := hy0.set_ 0 (.slice none 0 0)
    have hy2 := hy1.set_ 1 (.slice none 0 0)
    have y0 := hy2.cell 0
    have y1 := hy2.cell 1
    refine bodyPost_ret (v := .tuple #[.agg #[.slice none 0 0, .slice none 0 0], .int .i64 12]) (by simp [results, Try.results14, go_sem, y0, y1]) rfl ?_
    rw [unhide HF]
    exact ⟨noTly, rfl, noTly_ok _ _, rfl, rfl, ((((unhide HBX).trans (hzy.mono (unhide HBX).size)).setCell (by show w.heap.size ≤ w.heap.size + 2; omega) _).setCell (by show w.heap.size ≤ w.heap.size + 2; omega) _).drew⟩
  have hs' : cellU us k + count ≤ 1048576 := by omega
  have HF := hide (show doP mv us ⟨3, k, dst, count⟩ = ((mv, us.set k (cellU us k + count)), 0) by
    unfold doP
    dsimp only
    refine Eq.trans (if_neg (by rw [unhide HTP]; simp)) ?_
    refine Eq.trans (if_neg (by simp)) ?_
    refine Eq.trans (if_neg (by rintro (h | h | h | h); exact h ⟨by omega, by rw [unhide HUN]; omega⟩; exact absurd h.1 (by simp); omega; omega)) ?_
    refine Eq.trans (if_neg (fun h => unhide HL h.2)) ?_
    refine Eq.trans (if_pos rfl) ?_
    exact if_neg hs)
  clear hs

  go_enter Try.func14, Try.ntmps14
  go_wp2_with fail
  rw [← unhide HWX]
  refine (unhide HM').mono ?_
  rintro _ w1 ⟨rfl, hb1⟩
  have hz1 : Below wx.heap.size wx w1 := hb1
  clear hb1 hz0
  go_wp2_with fail

  refine ((unhide HTH k w1).mono fun e w' he => (show e = .returned (.bool true) ∧ Below w1.heap.size w1 w' from ⟨by rw [he.1, unhide HTW], he.2⟩)).mono ?_
  rintro _ w2 ⟨rfl, hb2⟩
  have hz2 : Below wx.heap.size wx w2 := hz1.trans (hb2.mono hz1.size)
  clear hb2 hz1
  go_wp2_with fail

  have hext : ∀ n : Ext w2, Below wx.heap.size wx n.W := fun n => hz2.trans (n.h.mono hz2.size)
  have HL' := hide (fun n : Ext w2 => unhide HLF k (by rw [unhide HUN]; omega) n.W ((unhide HBX).trans ((hext n).mono (unhide HBX).size)))
  refine wp_region_calm (by kernel_rfl) (by kernel_rfl) ?_
  repeat (go_big_quiet_step ((go_at_call 20; exact calm_call (unhide HL' _))))
  refine wpQuiet_nil ?_
  rintro _ ⟨nq, rfl⟩
  have hz3 : Below wx.heap.size wx nq.W := hext nq
  generalize nq.W = w3 at hz3 ⊢
  clear hext HL' hz2
  go_wp2_with fail

  refine (unhide HCP w3 ((unhide HBX).trans (hz3.mono (unhide HBX).size))).mono ?_
  rintro _ w4 ⟨v, u, L, rfl, hOT, hOR, hLz, huz, hb4⟩
  have hz4 : Below wx.heap.size wx w4 := hz3.trans (hb4.mono hz3.size)
  obtain ⟨A2, c2, rfl, hMS⟩ := MState.start (n := n) (World.ownsRow.mono hOT hz3.size) (hOR.mono hz3.size) hLz huz (unhide HUN) (unhide HMN) hz4
  have huv : u.val = .slice (some ⟨u.g, 0, none⟩) n u.cap := orw_val (by rw [huz]; exact unhide HUN)
  rw [huv]
  have HMG := hide (show wx.heap.size ≤ w4.heap.size from hz4.size)
  have hlt0 : w.heap.size < w4.heap.size := by have := unhide HSX; have := hz4.size; omega
  have hlt1 : w.heap.size + 1 < w4.heap.size := by have := unhide HSX; have := hz4.size; omega
  have hlt2 : w.heap.size + 2 < w4.heap.size := by have := unhide HSX; have := hz4.size; omega
  have HMS := hide hMS
  clear hOT hOR hLz huz hb4 hMS huv hz3
  generalize u.g = ug at HMS ⊢
  generalize u.cap = ucap at HMS ⊢
  obtain ⟨_, _, hnuc, hucm0, _, _, _⟩ := (unhide HMS).used
  have hucm : ucap ≤ 9223372036854775807 := by unfold maxLen at hucm0; omega
  clear hucm0
  go_wp2_with fail
  have hzq := (unhide HMS).below
  generalize w4.alloc (.cells #[.slice A2 n c2, .slice (some ⟨ug, 0, none⟩) n ucap] 25) = wq at HMS hzq ⊢
  generalize w4.heap.size = M at HMS HMG hlt0 hlt1 hlt2 ⊢
  clear hz4

  obtain ⟨T, hB0, _, _, hul, hI, hupd⟩ := (unhide HMS).used
  have i1 : wq.cell? ⟨ug, k, none⟩ = some (.int .i64 (cellU us k)) := hI.cell (cellU_get (by rw [hul]; omega))
  have j1 : wq.frozen? ⟨ug, k, none⟩ = false := IRow.frozen hI _
  have hg9 : wq.grownBy (wq.setCell ⟨ug, k, none⟩ (.int .i64 (cellU us k + count))) (some ug) := only_setCell (World.grownBy.refl wq _) (.inl rfl) _
  have HS9 := hide (hupd _ _ hg9 (hI.set_ (by rw [hul]; omega) _) (by rw [List.length_set]; exact hul))
  have s1 := (hI.set_ (k := k) (by rw [hul]; omega) (cellU us k + count)).cell (k := k) (List.getElem?_set_self (by rw [hul]; omega))
  clear hul hI hupd hg9
  have hzy := (unhide HS9).below
  have m0 := (unhide HS9).blk.cell 0
  have m1 := (unhide HS9).blk.cell 1
  have e0 := z0 _ hzy
  have e1 := z1 _ hzy
  have e2 := f0 _ hzy
  have e3 := f1 _ hzy
  go_still_tail 7, (by kernel_rfl)
  go_wp2_with fail
  generalize (wq.setCell ⟨ug, k, none⟩ (.int .i64 (cellU us k + count))) = wy at HS9 hzy e0 e1 e2 e3 m0 m1 s1 ⊢

  have hy0 := Blk.below (unhide HK2) hzy (by have := unhide HSX; omega)
  have hy1 := hy0.set_ 0 (.slice A2 n c2)
  have hy2 := hy1.set_ 1 (.slice (some ⟨ug, 0, none⟩) n ucap)
  have y0 := hy2.cell 0
  have y1 := hy2.cell 1
  have hMM := unhide HMG
  have hSS := unhide HSX
  obtain ⟨t, hv, hok, hmv, huz⟩ := (((unhide HS9).weak (unhide HBX) (unhide HBX).size).far hy0 (by omega) (by omega) 0 (.slice A2 n c2) |>.far hy1 (by omega) (by omega) 1 (.slice (some ⟨ug, 0, none⟩) n ucap)).read
  refine bodyPost_ret (v := .tuple #[.agg #[.slice A2 n c2, .slice (some ⟨ug, 0, none⟩) n ucap], .int .i64 0]) (by simp [results, Try.results14, go_sem, y0, y1]) rfl ?_
  rw [unhide HF]
  exact ⟨t, by rw [hv], hok, hmv, huz, ((((unhide HBX).trans (hzy.mono (unhide HBX).size)).setCell (by show w.heap.size ≤ w.heap.size + 2; omega) _).setCell (by show w.heap.size ≤ w.heap.size + 2; omega) _).drew⟩

set_option maxHeartbeats 8000000 in
theorem tallyDo_2 (t : Tly) (who dst count : Int) (B : Nat) (w : World) (ht : t.ok w B) (hB : B ≤ w.heap.size) (hg : tallyP t.mv t.u.zs = true) :
    Calls Try.prog 14 #[t.val, .agg #[.int .i64 2, .int .i64 who, .int .i64 dst, .int .i64 count]] w fun e w' => TlyPost w.heap.size (doP t.mv t.u.zs ⟨2, who, dst, count⟩) e w w' := by
  have HGOOD := hide (tallyP_good hg)
  have hun : t.u.n ≤ 9223372036854775807 := by have h1 := ht.2.2.2.2.1; have h2 := ht.2.2.2.2.2.1; unfold maxLen at h2; omega
  have HM := hide (fun W (hW : Below w.heap.size w W) => (tallyMay_any t B W (ht.below (hW.mono hB)) (Nat.le_trans hB hW.size)))
  have HTH := hide (fun (z : Int) W => there_any t z W hun)
  have HLF := hide (fun (k : Nat) (hk : k < t.u.zs.length) W (hW : Below w.heap.size w W) => by
    obtain ⟨b, o, ub, uo, h1, h2, h3, h4, h5, h6, h7, _, h8⟩ := tly_grid ht hg
    exact (show Calls Try.prog 20 #[t.val, .int .i64 k] W fun e w' => e = .returned (.int .i64 (leftV t.mv t.u.zs k)) ∧ Below W.heap.size W w' from left_any t B W k _ b o ub uo _ _ (Nat.le_trans hB hW.size) (h8 W (hW.mono hB)) h1 h2 hk h3 h4 h5 h6 h7))
  have HCP := hide (fun W (hW : Below w.heap.size w W) => copied_any t B W (ht.below (hW.mono hB)) (Nat.le_trans hB hW.size) hg)
  rw [hg] at HM
  have HTP := hide hg
  have HUN := hide (show t.u.zs.length = t.u.n from ht.2.2.2.1)
  obtain ⟨A, m, c, rs, ⟨uA, n, uc, us⟩⟩ := t
  unfold Tly.val at HM HTH HLF HCP ⊢
  dsimp only at hun HM HTH HLF HCP HTP HUN HGOOD ⊢
  clear ht hg
  generalize Tly.mv ⟨A, m, c, rs, ⟨uA, n, uc, us⟩⟩ = mv at *
  have hn8 : n ≤ 8 := by have := (unhide HGOOD).2.1; rw [unhide HUN] at this; exact this
  have HMN := hide (show mv.length = n by have := (unhide HGOOD).2.2.2.1; rw [unhide HUN] at this; exact this)
  have HMR := hide (show ∀ l ∈ mv, l.length = n from fun l hl => by have := ((unhide HGOOD).2.2.2.2 l hl).1; rw [unhide HUN] at this; exact this)
  have HNU := hide (show ∀ j, j < n → 0 ≤ cellU us j ∧ cellU us j ≤ 1048576 from fun j hj =>
    (unhide HGOOD).2.2.1 _ (List.mem_of_getElem? (cellU_get (by rw [unhide HUN]; exact hj))))
  have HNM := hide (show ∀ i j, i < n → j < n → 0 ≤ cellM mv i j ∧ cellM mv i j ≤ 1048576 from fun i j hi hj => by
    obtain ⟨x, hx⟩ : ∃ x, mv[i]? = some x := ⟨_, List.getElem?_eq_getElem (by rw [unhide HMN]; exact hi)⟩
    exact ((unhide HGOOD).2.2.2.2 x (List.mem_of_getElem? hx)).2 _ (List.mem_of_getElem? (cellM_get hx (by rw [unhide HMR x (List.mem_of_getElem? hx)]; exact hj))))
  obtain ⟨wx, hwx⟩ : ∃ wx, wx = ((w.alloc (.cells #[.slice A m c, .slice uA n uc] 25)).alloc (.cells #[.int .i64 2, .int .i64 who, .int .i64 dst, .int .i64 count] 35)).alloc (.cells #[.slice none 0 0, .slice none 0 0] 25) := ⟨_, rfl⟩
  have hbx : Below w.heap.size w wx := by rw [hwx]; exact (((Below.refl _ _).alloc (Nat.le_refl _) _).alloc (by simp) _).alloc (by simp; omega) _
  have hsx : wx.heap.size = w.heap.size + 3 := by rw [hwx]; simp
  have k0 : Blk wx w.heap.size 25 #[.slice A m c, .slice uA n uc] := by rw [hwx]; exact ((Blk.new w 25 _).alloc _).alloc _
  have k1 : Blk wx (w.heap.size + 1) 35 #[.int .i64 2, .int .i64 who, .int .i64 dst, .int .i64 count] := by
    rw [hwx]
    have h := (Blk.new (w.alloc (.cells #[.slice A m c, .slice uA n uc] 25)) 35 #[.int .i64 2, .int .i64 who, .int .i64 dst, .int .i64 count]).alloc (.cells #[.slice none 0 0, .slice none 0 0] 25)
    simpa using h
  have k2 : Blk wx (w.heap.size + 2) 25 #[.slice none 0 0, .slice none 0 0] := by
    rw [hwx]
    have h := Blk.new ((w.alloc (.cells #[.slice A m c, .slice uA n uc] 25)).alloc (.cells #[.int .i64 2, .int .i64 who, .int .i64 dst, .int .i64 count] 35)) 25 #[.slice none 0 0, .slice none 0 0]
    simpa using h
  have HSX := hide (show w.heap.size + 3 ≤ wx.heap.size by omega)
  have q0 : ∀ W, Below wx.heap.size wx W → W.cell? ⟨w.heap.size, 0, none⟩ = some (.slice A m c) := fun W hW => (Blk.below k0 hW (by omega)).cell 0
  have q1 : ∀ W, Below wx.heap.size wx W → W.cell? ⟨w.heap.size, 1, none⟩ = some (.slice uA n uc) := fun W hW => (Blk.below k0 hW (by omega)).cell 1
  have d0 : ∀ W, Below wx.heap.size wx W → W.cell? ⟨w.heap.size + 1, 0, none⟩ = some (.int .i64 2) := fun W hW => (Blk.below k1 hW (by omega)).cell 0
  have d1 : ∀ W, Below wx.heap.size wx W → W.cell? ⟨w.heap.size + 1, 1, none⟩ = some (.int .i64 who) := fun W hW => (Blk.below k1 hW (by omega)).cell 1
  have d2 : ∀ W, Below wx.heap.size wx W → W.cell? ⟨w.heap.size + 1, 2, none⟩ = some (.int .i64 dst) := fun W hW => (Blk.below k1 hW (by omega)).cell 2
  have d3 : ∀ W, Below wx.heap.size wx W → W.cell? ⟨w.heap.size + 1, 3, none⟩ = some (.int .i64 count) := fun W hW => (Blk.below k1 hW (by omega)).cell 3
  have z0 : ∀ W, Below wx.heap.size wx W → W.cell? ⟨w.heap.size + 2, 0, none⟩ = some (.slice none 0 0) := fun W hW => (Blk.below k2 hW (by omega)).cell 0
  have z1 : ∀ W, Below wx.heap.size wx W → W.cell? ⟨w.heap.size + 2, 1, none⟩ = some (.slice none 0 0) := fun W hW => (Blk.below k2 hW (by omega)).cell 1
  have f0 : ∀ W, Below wx.heap.size wx W → W.frozen? ⟨w.heap.size + 2, 0, none⟩ = false := fun W hW => (Blk.below k2 hW (by omega)).frozen 0
  have f1 : ∀ W, Below wx.heap.size wx W → W.frozen? ⟨w.heap.size + 2, 1, none⟩ = false := fun W hW => (Blk.below k2 hW (by omega)).frozen 1
  have hz0 : Below wx.heap.size wx wx := Below.refl _ _
  have HBX := hide hbx
  have HWX := hide hwx
  have HK0 := hide k0
  have HK1 := hide k1
  have HK2 := hide k2
  have HM' := hide (unhide HM wx hbx)
  clear hbx hwx hsx k0 k1 k2 HM
  by_cases hw : 0 ≤ who ∧ who < (n : Int)
  rotate_left
  · have HTW := hide (show (decide ((0 : Int) ≤ who) && decide (who < (n : Int))) = false by simp; omega)
    have HF := hide (show doP mv us ⟨2, who, dst, count⟩ = (([], []), 2) by
      unfold doP
      dsimp only
      refine Eq.trans (if_neg (by rw [unhide HTP]; simp)) ?_
      refine Eq.trans (if_neg (by simp)) ?_
      exact if_pos (by left; rw [unhide HUN]; exact hw))
    clear hw

    go_enter Try.func14, Try.ntmps14
    go_wp2_with fail
    rw [← unhide HWX]
    refine (unhide HM').mono ?_
    rintro _ w1 ⟨rfl, hb1⟩
    have hz1 : Below wx.heap.size wx w1 := hb1
    clear hb1 hz0
    go_wp2_with fail

    refine ((unhide HTH who w1).mono fun e w' he => (show e = .returned (.bool false) ∧ Below w1.heap.size w1 w' from ⟨by rw [he.1, unhide HTW], he.2⟩)).mono ?_
    rintro _ w2 ⟨rfl, hb2⟩
    have hz2 : Below wx.heap.size wx w2 := hz1.trans (hb2.mono hz1.size)
    clear hb2 hz1
    go_wp2_with fail

    have hy0 := Blk.below (unhide HK2) hz2 (by have := unhide HSX; omega)
    have hy1 := hy0.set_ 0 (.slice none 0 0)
    have hy2 := hy1.set_ 1 (.slice none 0 0)
    have y0 := hy2.cell 0
    have y1 := hy2.cell 1
    refine bodyPost_ret (v := .tuple #[.agg #[.slice none 0 0, .slice none 0 0], .int .i64 2]) (by simp [results, Try.results14, go_sem, y0, y1]) rfl ?_
    rw [unhide HF]
    exact ⟨noTly, rfl, noTly_ok _ _, rfl, rfl, (((unhide HBX).trans (hz2.mono (unhide HBX).size)).setCell (by show w.heap.size ≤ w.heap.size + 2; omega) _).setCell (by show w.heap.size ≤ w.heap.size + 2; omega) _⟩
  obtain ⟨k, rfl⟩ := Int.eq_ofNat_of_zero_le hw.1
  have hkn : k < n := by omega
  have hkn' : (k : Int) < (n : Int) := by omega
  have HTW := hide (show (decide ((0 : Int) ≤ (k : Int)) && decide ((k : Int) < (n : Int))) = true by simp; omega)
  clear hw
  by_cases hv : 0 ≤ dst ∧ dst < (n : Int)
  rotate_left
  · have HTV := hide (show (decide ((0 : Int) ≤ dst) && decide (dst < (n : Int))) = false by simp; omega)
    have HF := hide (show doP mv us ⟨2, k, dst, count⟩ = (([], []), 2) by
      unfold doP
      dsimp only
      refine Eq.trans (if_neg (by rw [unhide HTP]; simp)) ?_
      refine Eq.trans (if_neg (by simp)) ?_
      exact if_pos (by right; left; exact ⟨rfl, .inl (by rw [unhide HUN]; exact hv)⟩))
    clear hv

    go_enter Try.func14, Try.ntmps14
    go_wp2_with fail
    rw [← unhide HWX]
    refine (unhide HM').mono ?_
    rintro _ w1 ⟨rfl, hb1⟩
    have hz1 : Below wx.heap.size wx w1 := hb1
    clear hb1 hz0
    go_wp2_with fail

    refine ((unhide HTH k w1).mono fun e w' he => (show e = .returned (.bool true) ∧ Below w1.heap.size w1 w' from ⟨by rw [he.1, unhide HTW], he.2⟩)).mono ?_
    rintro _ w2 ⟨rfl, hb2⟩
    have hz2 : Below wx.heap.size wx w2 := hz1.trans (hb2.mono hz1.size)
    clear hb2 hz1
    go_wp2_with fail

    refine ((unhide HTH dst w2).mono fun e w' he => (show e = .returned (.bool false) ∧ Below w2.heap.size w2 w' from ⟨by rw [he.1, unhide HTV], he.2⟩)).mono ?_
    rintro _ w3 ⟨rfl, hb3⟩
    have hz3 : Below wx.heap.size wx w3 := hz2.trans (hb3.mono hz2.size)
    clear hb3 hz2
    go_wp2_with fail

    have hy0 := Blk.below (unhide HK2) hz3 (by have := unhide HSX; omega)
    have hy1 := hy0.set_ 0 (.slice none 0 0)
    have hy2 := hy1.set_ 1 (.slice none 0 0)
    have y0 := hy2.cell 0
    have y1 := hy2.cell 1
    refine bodyPost_ret (v := .tuple #[.agg #[.slice none 0 0, .slice none 0 0], .int .i64 2]) (by simp [results, Try.results14, go_sem, y0, y1]) rfl ?_
    rw [unhide HF]
    exact ⟨noTly, rfl, noTly_ok _ _, rfl, rfl, (((unhide HBX).trans (hz3.mono (unhide HBX).size)).setCell (by show w.heap.size ≤ w.heap.size + 2; omega) _).setCell (by show w.heap.size ≤ w.heap.size + 2; omega) _⟩
  obtain ⟨j, rfl⟩ := Int.eq_ofNat_of_zero_le hv.1
  have hjn : j < n := by omega
  have hjn' : (j : Int) < (n : Int) := by omega
  have HTV := hide (show (decide ((0 : Int) ≤ (j : Int)) && decide ((j : Int) < (n : Int))) = true by simp; omega)
  clear hv
  by_cases he : j = k
  · subst he
    have HF := hide (show doP mv us ⟨2, j, j, count⟩ = (([], []), 2) by
      unfold doP
      dsimp only
      refine Eq.trans (if_neg (by rw [unhide HTP]; simp)) ?_
      refine Eq.trans (if_neg (by simp)) ?_
      exact if_pos (by right; left; exact ⟨rfl, .inr rfl⟩))

    go_enter Try.func14, Try.ntmps14
    go_wp2_with fail
    rw [← unhide HWX]
    refine (unhide HM').mono ?_
    rintro _ w1 ⟨rfl, hb1⟩
    have hz1 : Below wx.heap.size wx w1 := hb1
    clear hb1 hz0
    go_wp2_with fail

    refine ((unhide HTH j w1).mono fun e w' he => (show e = .returned (.bool true) ∧ Below w1.heap.size w1 w' from ⟨by rw [he.1, unhide HTW], he.2⟩)).mono ?_
    rintro _ w2 ⟨rfl, hb2⟩
    have hz2 : Below wx.heap.size wx w2 := hz1.trans (hb2.mono hz1.size)
    clear hb2 hz1
    go_wp2_with fail

    refine ((unhide HTH j w2).mono fun e w' he => (show e = .returned (.bool true) ∧ Below w2.heap.size w2 w' from ⟨by rw [he.1, unhide HTV], he.2⟩)).mono ?_
    rintro _ w3 ⟨rfl, hb3⟩
    have hz3 : Below wx.heap.size wx w3 := hz2.trans (hb3.mono hz2.size)
    clear hb3 hz2
    go_wp2_with fail

    have hy0 := Blk.below (unhide HK2) hz3 (by have := unhide HSX; omega)
    have hy1 := hy0.set_ 0 (.slice none 0 0)
    have hy2 := hy1.set_ 1 (.slice none 0 0)
    have y0 := hy2.cell 0
    have y1 := hy2.cell 1
    refine bodyPost_ret (v := .tuple #[.agg #[.slice none 0 0, .slice none 0 0], .int .i64 2]) (by simp [results, Try.results14, go_sem, y0, y1]) rfl ?_
    rw [unhide HF]
    exact ⟨noTly, rfl, noTly_ok _ _, rfl, rfl, (((unhide HBX).trans (hz3.mono (unhide HBX).size)).setCell (by show w.heap.size ≤ w.heap.size + 2; omega) _).setCell (by show w.heap.size ≤ w.heap.size + 2; omega) _⟩
  have he1 : ((j : Int) == (k : Int)) = false := by simp; omega
  have he2 : (j == k) = false := by simp; omega
  have HE := hide he
  clear he
  by_cases hc1 : count < 1
  · have HF := hide (show doP mv us ⟨2, k, j, count⟩ = (([], []), 2) by
      unfold doP
      dsimp only
      refine Eq.trans (if_neg (by rw [unhide HTP]; simp)) ?_
      refine Eq.trans (if_neg (by simp)) ?_
      exact if_pos (by right; right; left; exact hc1))

    go_enter Try.func14, Try.ntmps14
    go_wp2_with fail
    rw [← unhide HWX]
    refine (unhide HM').mono ?_
    rintro _ w1 ⟨rfl, hb1⟩
    have hz1 : Below wx.heap.size wx w1 := hb1
    clear hb1 hz0
    go_wp2_with fail

    refine ((unhide HTH k w1).mono fun e w' he => (show e = .returned (.bool true) ∧ Below w1.heap.size w1 w' from ⟨by rw [he.1, unhide HTW], he.2⟩)).mono ?_
    rintro _ w2 ⟨rfl, hb2⟩
    have hz2 : Below wx.heap.size wx w2 := hz1.trans (hb2.mono hz1.size)
    clear hb2 hz1
    go_wp2_with fail

    refine ((unhide HTH j w2).mono fun e w' he => (show e = .returned (.bool true) ∧ Below w2.heap.size w2 w' from ⟨by rw [he.1, unhide HTV], he.2⟩)).mono ?_
    rintro _ w3 ⟨rfl, hb3⟩
    have hz3 : Below wx.heap.size wx w3 := hz2.trans (hb3.mono hz2.size)
    clear hb3 hz2
    go_wp2_with fail

    have hy0 := Blk.below (unhide HK2) hz3 (by have := unhide HSX; omega)
    have hy1 := hy0.set_ 0 (.slice none 0 0)
    have hy2 := hy1.set_ 1 (.slice none 0 0)
    have y0 := hy2.cell 0
    have y1 := hy2.cell 1
    refine bodyPost_ret (v := .tuple #[.agg #[.slice none 0 0, .slice none 0 0], .int .i64 2]) (by simp [results, Try.results14, go_sem, y0, y1]) rfl ?_
    rw [unhide HF]
    exact ⟨noTly, rfl, noTly_ok _ _, rfl, rfl, (((unhide HBX).trans (hz3.mono (unhide HBX).size)).setCell (by show w.heap.size ≤ w.heap.size + 2; omega) _).setCell (by show w.heap.size ≤ w.heap.size + 2; omega) _⟩
  by_cases hc2 : 1048576 < count
  · have HF := hide (show doP mv us ⟨2, k, j, count⟩ = (([], []), 2) by
      unfold doP
      dsimp only
      refine Eq.trans (if_neg (by rw [unhide HTP]; simp)) ?_
      refine Eq.trans (if_neg (by simp)) ?_
      exact if_pos (by right; right; right; exact hc2))
    have hc1' : 1 ≤ count := by omega
    clear hc1

    go_enter Try.func14, Try.ntmps14
    go_wp2_with fail
    rw [← unhide HWX]
    refine (unhide HM').mono ?_
    rintro _ w1 ⟨rfl, hb1⟩
    have hz1 : Below wx.heap.size wx w1 := hb1
    clear hb1 hz0
    go_wp2_with fail

    refine ((unhide HTH k w1).mono fun e w' he => (show e = .returned (.bool true) ∧ Below w1.heap.size w1 w' from ⟨by rw [he.1, unhide HTW], he.2⟩)).mono ?_
    rintro _ w2 ⟨rfl, hb2⟩
    have hz2 : Below wx.heap.size wx w2 := hz1.trans (hb2.mono hz1.size)
    clear hb2 hz1
    go_wp2_with fail

    refine ((unhide HTH j w2).mono fun e w' he => (show e = .returned (.bool true) ∧ Below w2.heap.size w2 w' from ⟨by rw [he.1, unhide HTV], he.2⟩)).mono ?_
    rintro _ w3 ⟨rfl, hb3⟩
    have hz3 : Below wx.heap.size wx w3 := hz2.trans (hb3.mono hz2.size)
    clear hb3 hz2
    go_wp2_with fail

    have hy0 := Blk.below (unhide HK2) hz3 (by have := unhide HSX; omega)
    have hy1 := hy0.set_ 0 (.slice none 0 0)
    have hy2 := hy1.set_ 1 (.slice none 0 0)
    have y0 := hy2.cell 0
    have y1 := hy2.cell 1
    refine bodyPost_ret (v := .tuple #[.agg #[.slice none 0 0, .slice none 0 0], .int .i64 2]) (by simp [results, Try.results14, go_sem, y0, y1]) rfl ?_
    rw [unhide HF]
    exact ⟨noTly, rfl, noTly_ok _ _, rfl, rfl, (((unhide HBX).trans (hz3.mono (unhide HBX).size)).setCell (by show w.heap.size ≤ w.heap.size + 2; omega) _).setCell (by show w.heap.size ≤ w.heap.size + 2; omega) _⟩
  have hc1' : 1 ≤ count := by omega
  have hc2' : count ≤ 1048576 := by omega
  clear hc1 hc2
  by_cases hl : leftV mv us k < count
  · have HF := hide (show doP mv us ⟨2, k, j, count⟩ = (([], []), 9) by
      unfold doP
      dsimp only
      refine Eq.trans (if_neg (by rw [unhide HTP]; simp)) ?_
      refine Eq.trans (if_neg (by simp)) ?_
      refine Eq.trans (if_neg (by rintro (h | h | h | h); exact h ⟨by omega, by rw [unhide HUN]; omega⟩; (rcases h with ⟨_, h | h⟩; exact h ⟨by omega, by rw [unhide HUN]; omega⟩; exact unhide HE (by omega)); omega; omega)) ?_
      exact if_pos ⟨by simp, hl⟩)

    go_enter Try.func14, Try.ntmps14
    go_wp2_with fail
    rw [← unhide HWX]
    refine (unhide HM').mono ?_
    rintro _ w1 ⟨rfl, hb1⟩
    have hz1 : Below wx.heap.size wx w1 := hb1
    clear hb1 hz0
    go_wp2_with fail

    refine ((unhide HTH k w1).mono fun e w' he => (show e = .returned (.bool true) ∧ Below w1.heap.size w1 w' from ⟨by rw [he.1, unhide HTW], he.2⟩)).mono ?_
    rintro _ w2 ⟨rfl, hb2⟩
    have hz2 : Below wx.heap.size wx w2 := hz1.trans (hb2.mono hz1.size)
    clear hb2 hz1
    go_wp2_with fail

    refine ((unhide HTH j w2).mono fun e w' he => (show e = .returned (.bool true) ∧ Below w2.heap.size w2 w' from ⟨by rw [he.1, unhide HTV], he.2⟩)).mono ?_
    rintro _ w3 ⟨rfl, hb3⟩
    have hz3 : Below wx.heap.size wx w3 := hz2.trans (hb3.mono hz2.size)
    clear hb3 hz2
    go_wp2_with fail

    have hext : ∀ n : Ext w3, Below wx.heap.size wx n.W := fun n => hz3.trans (n.h.mono hz3.size)
    have HL' := hide (fun n : Ext w3 => unhide HLF k (by rw [unhide HUN]; omega) n.W ((unhide HBX).trans ((hext n).mono (unhide HBX).size)))
    refine wp_region_calm (by kernel_rfl) (by kernel_rfl) ?_
    repeat (go_big_quiet_step ((go_at_call 20; exact calm_call (unhide HL' _))))
    refine wpQuiet_nil ?_
    rintro _ ⟨nq, rfl⟩
    have hz4 : Below wx.heap.size wx nq.W := hext nq
    generalize nq.W = w4 at hz4 ⊢
    clear hext HL' hz3
    go_wp2_with fail

    have hy0 := Blk.below (unhide HK2) hz4 (by have := unhide HSX; omega)
    have hy1 := hy0.set_ 0 (.slice none 0 0)
    have hy2 := hy1.set_ 1 (.slice none 0 0)
    have y0 := hy2.cell 0
    have y1 := hy2.cell 1
    refine bodyPost_ret (v := .tuple #[.agg #[.slice none 0 0, .slice none 0 0], .int .i64 9]) (by simp [results, Try.results14, go_sem, y0, y1]) rfl ?_
    rw [unhide HF]
    exact ⟨noTly, rfl, noTly_ok _ _, rfl, rfl, (((unhide HBX).trans (hz4.mono (unhide HBX).size)).setCell (by show w.heap.size ≤ w.heap.size + 2; omega) _).setCell (by show w.heap.size ≤ w.heap.size + 2; omega) _⟩
  have hl' : count ≤ leftV mv us k := by omega
  have HL := hide hl
  clear hl
  have hx0 := (unhide HNM k j hkn hjn).1
  have hx1 := (unhide HNM k j hkn hjn).2
  by_cases hs : 1048576 < cellM mv k j + count
  · have HF := hide (show doP mv us ⟨2, k, j, count⟩ = (([], []), 12) by
      unfold doP
      dsimp only
      refine Eq.trans (if_neg (by rw [unhide HTP]; simp)) ?_
      refine Eq.trans (if_neg (by simp)) ?_
      refine Eq.trans (if_neg (by rintro (h | h | h | h); exact h ⟨by omega, by rw [unhide HUN]; omega⟩; (rcases h with ⟨_, h | h⟩; exact h ⟨by omega, by rw [unhide HUN]; omega⟩; exact unhide HE (by omega)); omega; omega)) ?_
      refine Eq.trans (if_neg (fun h => unhide HL h.2)) ?_
      refine Eq.trans (if_neg (by simp)) ?_
      exact if_pos hs)

    go_enter Try.func14, Try.ntmps14
    go_wp2_with fail
    rw [← unhide HWX]
    refine (unhide HM').mono ?_
    rintro _ w1 ⟨rfl, hb1⟩
    have hz1 : Below wx.heap.size wx w1 := hb1
    clear hb1 hz0
    go_wp2_with fail

    refine ((unhide HTH k w1).mono fun e w' he => (show e = .returned (.bool true) ∧ Below w1.heap.size w1 w' from ⟨by rw [he.1, unhide HTW], he.2⟩)).mono ?_
    rintro _ w2 ⟨rfl, hb2⟩
    have hz2 : Below wx.heap.size wx w2 := hz1.trans (hb2.mono hz1.size)
    clear hb2 hz1
    go_wp2_with fail

    refine ((unhide HTH j w2).mono fun e w' he => (show e = .returned (.bool true) ∧ Below w2.heap.size w2 w' from ⟨by rw [he.1, unhide HTV], he.2⟩)).mono ?_
    rintro _ w3 ⟨rfl, hb3⟩
    have hz3 : Below wx.heap.size wx w3 := hz2.trans (hb3.mono hz2.size)
    clear hb3 hz2
    go_wp2_with fail

    have hext : ∀ n : Ext w3, Below wx.heap.size wx n.W := fun n => hz3.trans (n.h.mono hz3.size)
    have HL' := hide (fun n : Ext w3 => unhide HLF k (by rw [unhide HUN]; omega) n.W ((unhide HBX).trans ((hext n).mono (unhide HBX).size)))
    refine wp_region_calm (by kernel_rfl) (by kernel_rfl) ?_
    repeat (go_big_quiet_step ((go_at_call 20; exact calm_call (unhide HL' _))))
    refine wpQuiet_nil ?_
    rintro _ ⟨nq, rfl⟩
    have hz4 : Below wx.heap.size wx nq.W := hext nq
    generalize nq.W = w4 at hz4 ⊢
    clear hext HL' hz3
    go_wp2_with fail

    refine (unhide HCP w4 ((unhide HBX).trans (hz4.mono (unhide HBX).size))).mono ?_
    rintro _ w5 ⟨v, u, L, rfl, hOT, hOR, hLz, huz, hb5⟩
    have hz5 : Below wx.heap.size wx w5 := hz4.trans (hb5.mono hz4.size)
    obtain ⟨A2, c2, rfl, hMS⟩ := MState.start (n := n) (World.ownsRow.mono hOT hz4.size) (hOR.mono hz4.size) hLz huz (unhide HUN) (unhide HMN) hz5
    have huv : u.val = .slice (some ⟨u.g, 0, none⟩) n u.cap := orw_val (by rw [huz]; exact unhide HUN)
    rw [huv]
    have HMG := hide (show wx.heap.size ≤ w5.heap.size from hz5.size)
    have hlt0 : w.heap.size < w5.heap.size := by have := unhide HSX; have := hz5.size; omega
    have hlt1 : w.heap.size + 1 < w5.heap.size := by have := unhide HSX; have := hz5.size; omega
    have hlt2 : w.heap.size + 2 < w5.heap.size := by have := unhide HSX; have := hz5.size; omega
    have HMS := hide hMS
    clear hOT hOR hLz huz hb5 hMS huv hz4
    generalize u.g = ug at HMS ⊢
    generalize u.cap = ucap at HMS ⊢
    obtain ⟨_, _, hnuc, hucm0, _, _, _⟩ := (unhide HMS).used
    have hucm : ucap ≤ 9223372036854775807 := by unfold maxLen at hucm0; omega
    clear hucm0
    go_wp2_with fail
    have hzq := (unhide HMS).below
    generalize w5.alloc (.cells #[.slice A2 n c2, .slice (some ⟨ug, 0, none⟩) n ucap] 25) = wq at HMS hzq ⊢
    generalize w5.heap.size = M at HMS HMG hlt0 hlt1 hlt2 ⊢
    clear hz5

    obtain ⟨hb, ho, g, cap, zs, T, rfl, hc1, hc2, hcell, hB0, hzc, hcapm, hzk, hI, hupd⟩ := (unhide HMS).row (show k < n by omega)
    have hzl : zs.length = n := unhide HMR _ (List.mem_of_getElem? hzk)
    rw [hzl] at hcell hzc
    unfold maxLen at hc2 hcapm
    have m0 : wq.cell? ⟨M, 0, none⟩ = some (.slice (some ⟨hb, ho, none⟩) n c2) := (unhide HMS).blk.cell 0
    have hjn : (j : Int) < (n : Int) := by omega
    have HZK := hide hzk
    have HZL := hide hzl
    have HII := hide hI
    have HUP := hide hupd
    clear hzk hzl hI hupd
    go_quiet (fail)
    go_wp2_with fail
    have HII' := hide (show IRow (wq.drewN nq) g zs T from unhide HII)
    have HUP' := hide (fun w2 zs' (hg : (wq.drewN nq).grownBy w2 (some g)) (h1 : IRow w2 g zs' T) (h2 : zs'.length = zs.length) => unhide HUP w2 zs' ⟨hg.os, hg.tape, hg.output, hg.size, hg.block⟩ h1 h2)
    have hzd : Below wx.heap.size wx (wq.drewN nq) := below_drewN hzq nq
    clear HII HUP HMS hzq m0 hcell
    generalize wq.drewN nq = wz at HII' HUP' hzd ⊢
    have i1 : wz.cell? ⟨g, j, none⟩ = some (.int .i64 (cellM mv k j)) := (unhide HII').cell (cellM_get (unhide HZK) (by rw [unhide HZL]; omega))
    have j1 : wz.frozen? ⟨g, j, none⟩ = false := IRow.frozen (unhide HII') _
    have hg9 : wz.grownBy (wz.setCell ⟨g, j, none⟩ (.int .i64 (cellM mv k j + count))) (some g) := only_setCell (World.grownBy.refl wz _) (.inl rfl) _
    have HS9 := hide (unhide HUP' _ _ hg9 ((unhide HII').set_ (by rw [unhide HZL]; omega) _) (by rw [List.length_set]))
    have s1 := ((unhide HII').set_ (k := j) (by rw [unhide HZL]; omega) (cellM mv k j + count)).cell (k := j) (List.getElem?_set_self (by rw [unhide HZL]; omega))
    clear hg9 HUP' HII'
    have hzy := (unhide HS9).below
    have m0 := (unhide HS9).blk.cell 0
    have m1 := (unhide HS9).blk.cell 1
    have e0 := z0 _ hzy
    have e1 := z1 _ hzy
    have e2 := f0 _ hzy
    have e3 := f1 _ hzy
    go_still_tail 7, (by kernel_rfl)
    go_wp2_with fail
    generalize (wz.setCell ⟨g, j, none⟩ (.int .i64 (cellM mv k j + count))) = wy at HS9 hzy e0 e1 e2 e3 m0 m1 s1 ⊢

    have hy0 := Blk.below (unhide HK2) hzy (by have := unhide HSX; omega)
    have hy1 := hy0.set_ 0 (.slice none 0 0)
    have hy2 := hy1.set_ 1 (.slice none 0 0)
    have y0 := hy2.cell 0
    have y1 := hy2.cell 1
    refine bodyPost_ret (v := .tuple #[.agg #[.slice none 0 0, .slice none 0 0], .int .i64 12]) (by simp [results, Try.results14, go_sem, y0, y1]) rfl ?_
    rw [unhide HF]
    exact ⟨noTly, rfl, noTly_ok _ _, rfl, rfl, ((((unhide HBX).trans (hzy.mono (unhide HBX).size)).setCell (by show w.heap.size ≤ w.heap.size + 2; omega) _).setCell (by show w.heap.size ≤ w.heap.size + 2; omega) _).drew⟩
  have hs' : cellM mv k j + count ≤ 1048576 := by omega
  have HF := hide (show doP mv us ⟨2, k, j, count⟩ = ((mv.set k ((mv.getD k []).set j (cellM mv k j + count)), us), 0) by
    unfold doP
    dsimp only
    refine Eq.trans (if_neg (by rw [unhide HTP]; simp)) ?_
    refine Eq.trans (if_neg (by simp)) ?_
    refine Eq.trans (if_neg (by rintro (h | h | h | h); exact h ⟨by omega, by rw [unhide HUN]; omega⟩; (rcases h with ⟨_, h | h⟩; exact h ⟨by omega, by rw [unhide HUN]; omega⟩; exact unhide HE (by omega)); omega; omega)) ?_
    refine Eq.trans (if_neg (fun h => unhide HL h.2)) ?_
    refine Eq.trans (if_neg (by simp)) ?_
    exact if_neg hs)
  clear hs

  go_enter Try.func14, Try.ntmps14
  go_wp2_with fail
  rw [← unhide HWX]
  refine (unhide HM').mono ?_
  rintro _ w1 ⟨rfl, hb1⟩
  have hz1 : Below wx.heap.size wx w1 := hb1
  clear hb1 hz0
  go_wp2_with fail

  refine ((unhide HTH k w1).mono fun e w' he => (show e = .returned (.bool true) ∧ Below w1.heap.size w1 w' from ⟨by rw [he.1, unhide HTW], he.2⟩)).mono ?_
  rintro _ w2 ⟨rfl, hb2⟩
  have hz2 : Below wx.heap.size wx w2 := hz1.trans (hb2.mono hz1.size)
  clear hb2 hz1
  go_wp2_with fail

  refine ((unhide HTH j w2).mono fun e w' he => (show e = .returned (.bool true) ∧ Below w2.heap.size w2 w' from ⟨by rw [he.1, unhide HTV], he.2⟩)).mono ?_
  rintro _ w3 ⟨rfl, hb3⟩
  have hz3 : Below wx.heap.size wx w3 := hz2.trans (hb3.mono hz2.size)
  clear hb3 hz2
  go_wp2_with fail

  have hext : ∀ n : Ext w3, Below wx.heap.size wx n.W := fun n => hz3.trans (n.h.mono hz3.size)
  have HL' := hide (fun n : Ext w3 => unhide HLF k (by rw [unhide HUN]; omega) n.W ((unhide HBX).trans ((hext n).mono (unhide HBX).size)))
  refine wp_region_calm (by kernel_rfl) (by kernel_rfl) ?_
  repeat (go_big_quiet_step ((go_at_call 20; exact calm_call (unhide HL' _))))
  refine wpQuiet_nil ?_
  rintro _ ⟨nq, rfl⟩
  have hz4 : Below wx.heap.size wx nq.W := hext nq
  generalize nq.W = w4 at hz4 ⊢
  clear hext HL' hz3
  go_wp2_with fail

  refine (unhide HCP w4 ((unhide HBX).trans (hz4.mono (unhide HBX).size))).mono ?_
  rintro _ w5 ⟨v, u, L, rfl, hOT, hOR, hLz, huz, hb5⟩
  have hz5 : Below wx.heap.size wx w5 := hz4.trans (hb5.mono hz4.size)
  obtain ⟨A2, c2, rfl, hMS⟩ := MState.start (n := n) (World.ownsRow.mono hOT hz4.size) (hOR.mono hz4.size) hLz huz (unhide HUN) (unhide HMN) hz5
  have huv : u.val = .slice (some ⟨u.g, 0, none⟩) n u.cap := orw_val (by rw [huz]; exact unhide HUN)
  rw [huv]
  have HMG := hide (show wx.heap.size ≤ w5.heap.size from hz5.size)
  have hlt0 : w.heap.size < w5.heap.size := by have := unhide HSX; have := hz5.size; omega
  have hlt1 : w.heap.size + 1 < w5.heap.size := by have := unhide HSX; have := hz5.size; omega
  have hlt2 : w.heap.size + 2 < w5.heap.size := by have := unhide HSX; have := hz5.size; omega
  have HMS := hide hMS
  clear hOT hOR hLz huz hb5 hMS huv hz4
  generalize u.g = ug at HMS ⊢
  generalize u.cap = ucap at HMS ⊢
  obtain ⟨_, _, hnuc, hucm0, _, _, _⟩ := (unhide HMS).used
  have hucm : ucap ≤ 9223372036854775807 := by unfold maxLen at hucm0; omega
  clear hucm0
  go_wp2_with fail
  have hzq := (unhide HMS).below
  generalize w5.alloc (.cells #[.slice A2 n c2, .slice (some ⟨ug, 0, none⟩) n ucap] 25) = wq at HMS hzq ⊢
  generalize w5.heap.size = M at HMS HMG hlt0 hlt1 hlt2 ⊢
  clear hz5

  obtain ⟨hb, ho, g, cap, zs, T, rfl, hc1, hc2, hcell, hB0, hzc, hcapm, hzk, hI, hupd⟩ := (unhide HMS).row (show k < n by omega)
  have hzl : zs.length = n := unhide HMR _ (List.mem_of_getElem? hzk)
  rw [hzl] at hcell hzc
  unfold maxLen at hc2 hcapm
  have m0 : wq.cell? ⟨M, 0, none⟩ = some (.slice (some ⟨hb, ho, none⟩) n c2) := (unhide HMS).blk.cell 0
  have hjn : (j : Int) < (n : Int) := by omega
  have HZK := hide hzk
  have HZL := hide hzl
  have HII := hide hI
  have HUP := hide hupd
  clear hzk hzl hI hupd
  go_quiet (fail)
  go_wp2_with fail
  have HII' := hide (show IRow (wq.drewN nq) g zs T from unhide HII)
  have HUP' := hide (fun w2 zs' (hg : (wq.drewN nq).grownBy w2 (some g)) (h1 : IRow w2 g zs' T) (h2 : zs'.length = zs.length) => unhide HUP w2 zs' ⟨hg.os, hg.tape, hg.output, hg.size, hg.block⟩ h1 h2)
  have hzd : Below wx.heap.size wx (wq.drewN nq) := below_drewN hzq nq
  clear HII HUP HMS hzq m0 hcell
  generalize wq.drewN nq = wz at HII' HUP' hzd ⊢
  have i1 : wz.cell? ⟨g, j, none⟩ = some (.int .i64 (cellM mv k j)) := (unhide HII').cell (cellM_get (unhide HZK) (by rw [unhide HZL]; omega))
  have j1 : wz.frozen? ⟨g, j, none⟩ = false := IRow.frozen (unhide HII') _
  have hg9 : wz.grownBy (wz.setCell ⟨g, j, none⟩ (.int .i64 (cellM mv k j + count))) (some g) := only_setCell (World.grownBy.refl wz _) (.inl rfl) _
  have HS9 := hide (unhide HUP' _ _ hg9 ((unhide HII').set_ (by rw [unhide HZL]; omega) _) (by rw [List.length_set]))
  have s1 := ((unhide HII').set_ (k := j) (by rw [unhide HZL]; omega) (cellM mv k j + count)).cell (k := j) (List.getElem?_set_self (by rw [unhide HZL]; omega))
  clear hg9 HUP' HII'
  have hzy := (unhide HS9).below
  have m0 := (unhide HS9).blk.cell 0
  have m1 := (unhide HS9).blk.cell 1
  have e0 := z0 _ hzy
  have e1 := z1 _ hzy
  have e2 := f0 _ hzy
  have e3 := f1 _ hzy
  go_still_tail 7, (by kernel_rfl)
  go_wp2_with fail
  generalize (wz.setCell ⟨g, j, none⟩ (.int .i64 (cellM mv k j + count))) = wy at HS9 hzy e0 e1 e2 e3 m0 m1 s1 ⊢
  have HZM := hide (show mv.getD k [] = zs by rw [List.getD_eq_getElem?_getD, unhide HZK]; rfl)
  rw [unhide HZM] at HF

  have hy0 := Blk.below (unhide HK2) hzy (by have := unhide HSX; omega)
  have hy1 := hy0.set_ 0 (.slice (some ⟨hb, ho, none⟩) n c2)
  have hy2 := hy1.set_ 1 (.slice (some ⟨ug, 0, none⟩) n ucap)
  have y0 := hy2.cell 0
  have y1 := hy2.cell 1
  have hMM := unhide HMG
  have hSS := unhide HSX
  obtain ⟨t, hv, hok, hmv, huz⟩ := (((unhide HS9).weak (unhide HBX) (unhide HBX).size).far hy0 (by omega) (by omega) 0 (.slice (some ⟨hb, ho, none⟩) n c2) |>.far hy1 (by omega) (by omega) 1 (.slice (some ⟨ug, 0, none⟩) n ucap)).read
  refine bodyPost_ret (v := .tuple #[.agg #[.slice (some ⟨hb, ho, none⟩) n c2, .slice (some ⟨ug, 0, none⟩) n ucap], .int .i64 0]) (by simp [results, Try.results14, go_sem, y0, y1]) rfl ?_
  rw [unhide HF]
  exact ⟨t, by rw [hv], hok, hmv, huz, ((((unhide HBX).trans (hzy.mono (unhide HBX).size)).setCell (by show w.heap.size ≤ w.heap.size + 2; omega) _).setCell (by show w.heap.size ≤ w.heap.size + 2; omega) _).drew⟩

set_option maxHeartbeats 8000000 in
theorem tallyDo_1 (t : Tly) (who dst count : Int) (B : Nat) (w : World) (ht : t.ok w B) (hB : B ≤ w.heap.size) (hg : tallyP t.mv t.u.zs = true) :
    Calls Try.prog 14 #[t.val, .agg #[.int .i64 1, .int .i64 who, .int .i64 dst, .int .i64 count]] w fun e w' => TlyPost w.heap.size (doP t.mv t.u.zs ⟨1, who, dst, count⟩) e w w' := by
  have HGOOD := hide (tallyP_good hg)
  have hun : t.u.n ≤ 9223372036854775807 := by have h1 := ht.2.2.2.2.1; have h2 := ht.2.2.2.2.2.1; unfold maxLen at h2; omega
  have HM := hide (fun W (hW : Below w.heap.size w W) => (tallyMay_any t B W (ht.below (hW.mono hB)) (Nat.le_trans hB hW.size)))
  have HTH := hide (fun (z : Int) W => there_any t z W hun)
  have HLF := hide (fun (k : Nat) (hk : k < t.u.zs.length) W (hW : Below w.heap.size w W) => by
    obtain ⟨b, o, ub, uo, h1, h2, h3, h4, h5, h6, h7, _, h8⟩ := tly_grid ht hg
    exact (show Calls Try.prog 20 #[t.val, .int .i64 k] W fun e w' => e = .returned (.int .i64 (leftV t.mv t.u.zs k)) ∧ Below W.heap.size W w' from left_any t B W k _ b o ub uo _ _ (Nat.le_trans hB hW.size) (h8 W (hW.mono hB)) h1 h2 hk h3 h4 h5 h6 h7))
  have HCP := hide (fun W (hW : Below w.heap.size w W) => copied_any t B W (ht.below (hW.mono hB)) (Nat.le_trans hB hW.size) hg)
  rw [hg] at HM
  have HTP := hide hg
  have HUN := hide (show t.u.zs.length = t.u.n from ht.2.2.2.1)
  obtain ⟨A, m, c, rs, ⟨uA, n, uc, us⟩⟩ := t
  unfold Tly.val at HM HTH HLF HCP ⊢
  dsimp only at hun HM HTH HLF HCP HTP HUN HGOOD ⊢
  clear ht hg
  generalize Tly.mv ⟨A, m, c, rs, ⟨uA, n, uc, us⟩⟩ = mv at *
  have hn8 : n ≤ 8 := by have := (unhide HGOOD).2.1; rw [unhide HUN] at this; exact this
  have HMN := hide (show mv.length = n by have := (unhide HGOOD).2.2.2.1; rw [unhide HUN] at this; exact this)
  have HMR := hide (show ∀ l ∈ mv, l.length = n from fun l hl => by have := ((unhide HGOOD).2.2.2.2 l hl).1; rw [unhide HUN] at this; exact this)
  have HNU := hide (show ∀ j, j < n → 0 ≤ cellU us j ∧ cellU us j ≤ 1048576 from fun j hj =>
    (unhide HGOOD).2.2.1 _ (List.mem_of_getElem? (cellU_get (by rw [unhide HUN]; exact hj))))
  have HNM := hide (show ∀ i j, i < n → j < n → 0 ≤ cellM mv i j ∧ cellM mv i j ≤ 1048576 from fun i j hi hj => by
    obtain ⟨x, hx⟩ : ∃ x, mv[i]? = some x := ⟨_, List.getElem?_eq_getElem (by rw [unhide HMN]; exact hi)⟩
    exact ((unhide HGOOD).2.2.2.2 x (List.mem_of_getElem? hx)).2 _ (List.mem_of_getElem? (cellM_get hx (by rw [unhide HMR x (List.mem_of_getElem? hx)]; exact hj))))
  obtain ⟨wx, hwx⟩ : ∃ wx, wx = ((w.alloc (.cells #[.slice A m c, .slice uA n uc] 25)).alloc (.cells #[.int .i64 1, .int .i64 who, .int .i64 dst, .int .i64 count] 35)).alloc (.cells #[.slice none 0 0, .slice none 0 0] 25) := ⟨_, rfl⟩
  have hbx : Below w.heap.size w wx := by rw [hwx]; exact (((Below.refl _ _).alloc (Nat.le_refl _) _).alloc (by simp) _).alloc (by simp; omega) _
  have hsx : wx.heap.size = w.heap.size + 3 := by rw [hwx]; simp
  have k0 : Blk wx w.heap.size 25 #[.slice A m c, .slice uA n uc] := by rw [hwx]; exact ((Blk.new w 25 _).alloc _).alloc _
  have k1 : Blk wx (w.heap.size + 1) 35 #[.int .i64 1, .int .i64 who, .int .i64 dst, .int .i64 count] := by
    rw [hwx]
    have h := (Blk.new (w.alloc (.cells #[.slice A m c, .slice uA n uc] 25)) 35 #[.int .i64 1, .int .i64 who, .int .i64 dst, .int .i64 count]).alloc (.cells #[.slice none 0 0, .slice none 0 0] 25)
    simpa using h
  have k2 : Blk wx (w.heap.size + 2) 25 #[.slice none 0 0, .slice none 0 0] := by
    rw [hwx]
    have h := Blk.new ((w.alloc (.cells #[.slice A m c, .slice uA n uc] 25)).alloc (.cells #[.int .i64 1, .int .i64 who, .int .i64 dst, .int .i64 count] 35)) 25 #[.slice none 0 0, .slice none 0 0]
    simpa using h
  have HSX := hide (show w.heap.size + 3 ≤ wx.heap.size by omega)
  have q0 : ∀ W, Below wx.heap.size wx W → W.cell? ⟨w.heap.size, 0, none⟩ = some (.slice A m c) := fun W hW => (Blk.below k0 hW (by omega)).cell 0
  have q1 : ∀ W, Below wx.heap.size wx W → W.cell? ⟨w.heap.size, 1, none⟩ = some (.slice uA n uc) := fun W hW => (Blk.below k0 hW (by omega)).cell 1
  have d0 : ∀ W, Below wx.heap.size wx W → W.cell? ⟨w.heap.size + 1, 0, none⟩ = some (.int .i64 1) := fun W hW => (Blk.below k1 hW (by omega)).cell 0
  have d1 : ∀ W, Below wx.heap.size wx W → W.cell? ⟨w.heap.size + 1, 1, none⟩ = some (.int .i64 who) := fun W hW => (Blk.below k1 hW (by omega)).cell 1
  have d2 : ∀ W, Below wx.heap.size wx W → W.cell? ⟨w.heap.size + 1, 2, none⟩ = some (.int .i64 dst) := fun W hW => (Blk.below k1 hW (by omega)).cell 2
  have d3 : ∀ W, Below wx.heap.size wx W → W.cell? ⟨w.heap.size + 1, 3, none⟩ = some (.int .i64 count) := fun W hW => (Blk.below k1 hW (by omega)).cell 3
  have z0 : ∀ W, Below wx.heap.size wx W → W.cell? ⟨w.heap.size + 2, 0, none⟩ = some (.slice none 0 0) := fun W hW => (Blk.below k2 hW (by omega)).cell 0
  have z1 : ∀ W, Below wx.heap.size wx W → W.cell? ⟨w.heap.size + 2, 1, none⟩ = some (.slice none 0 0) := fun W hW => (Blk.below k2 hW (by omega)).cell 1
  have f0 : ∀ W, Below wx.heap.size wx W → W.frozen? ⟨w.heap.size + 2, 0, none⟩ = false := fun W hW => (Blk.below k2 hW (by omega)).frozen 0
  have f1 : ∀ W, Below wx.heap.size wx W → W.frozen? ⟨w.heap.size + 2, 1, none⟩ = false := fun W hW => (Blk.below k2 hW (by omega)).frozen 1
  have hz0 : Below wx.heap.size wx wx := Below.refl _ _
  have HBX := hide hbx
  have HWX := hide hwx
  have HK0 := hide k0
  have HK1 := hide k1
  have HK2 := hide k2
  have HM' := hide (unhide HM wx hbx)
  clear hbx hwx hsx k0 k1 k2 HM
  by_cases hw : 0 ≤ who ∧ who < (n : Int)
  rotate_left
  · have HTW := hide (show (decide ((0 : Int) ≤ who) && decide (who < (n : Int))) = false by simp; omega)
    have HF := hide (show doP mv us ⟨1, who, dst, count⟩ = (([], []), 2) by
      unfold doP
      dsimp only
      refine Eq.trans (if_neg (by rw [unhide HTP]; simp)) ?_
      refine Eq.trans (if_neg (by simp)) ?_
      exact if_pos (by left; rw [unhide HUN]; exact hw))
    clear hw

    go_enter Try.func14, Try.ntmps14
    go_wp2_with fail
    rw [← unhide HWX]
    refine (unhide HM').mono ?_
    rintro _ w1 ⟨rfl, hb1⟩
    have hz1 : Below wx.heap.size wx w1 := hb1
    clear hb1 hz0
    go_wp2_with fail

    refine ((unhide HTH who w1).mono fun e w' he => (show e = .returned (.bool false) ∧ Below w1.heap.size w1 w' from ⟨by rw [he.1, unhide HTW], he.2⟩)).mono ?_
    rintro _ w2 ⟨rfl, hb2⟩
    have hz2 : Below wx.heap.size wx w2 := hz1.trans (hb2.mono hz1.size)
    clear hb2 hz1
    go_wp2_with fail

    have hy0 := Blk.below (unhide HK2) hz2 (by have := unhide HSX; omega)
    have hy1 := hy0.set_ 0 (.slice none 0 0)
    have hy2 := hy1.set_ 1 (.slice none 0 0)
    have y0 := hy2.cell 0
    have y1 := hy2.cell 1
    refine bodyPost_ret (v := .tuple #[.agg #[.slice none 0 0, .slice none 0 0], .int .i64 2]) (by simp [results, Try.results14, go_sem, y0, y1]) rfl ?_
    rw [unhide HF]
    exact ⟨noTly, rfl, noTly_ok _ _, rfl, rfl, (((unhide HBX).trans (hz2.mono (unhide HBX).size)).setCell (by show w.heap.size ≤ w.heap.size + 2; omega) _).setCell (by show w.heap.size ≤ w.heap.size + 2; omega) _⟩
  obtain ⟨k, rfl⟩ := Int.eq_ofNat_of_zero_le hw.1
  have hkn : k < n := by omega
  have hkn' : (k : Int) < (n : Int) := by omega
  have HTW := hide (show (decide ((0 : Int) ≤ (k : Int)) && decide ((k : Int) < (n : Int))) = true by simp; omega)
  clear hw
  by_cases hc1 : count < 1
  · have HF := hide (show doP mv us ⟨1, k, dst, count⟩ = (([], []), 2) by
      unfold doP
      dsimp only
      refine Eq.trans (if_neg (by rw [unhide HTP]; simp)) ?_
      refine Eq.trans (if_neg (by simp)) ?_
      exact if_pos (by right; right; left; exact hc1))

    go_enter Try.func14, Try.ntmps14
    go_wp2_with fail
    rw [← unhide HWX]
    refine (unhide HM').mono ?_
    rintro _ w1 ⟨rfl, hb1⟩
    have hz1 : Below wx.heap.size wx w1 := hb1
    clear hb1 hz0
    go_wp2_with fail

    refine ((unhide HTH k w1).mono fun e w' he => (show e = .returned (.bool true) ∧ Below w1.heap.size w1 w' from ⟨by rw [he.1, unhide HTW], he.2⟩)).mono ?_
    rintro _ w2 ⟨rfl, hb2⟩
    have hz2 : Below wx.heap.size wx w2 := hz1.trans (hb2.mono hz1.size)
    clear hb2 hz1
    go_wp2_with fail

    have hy0 := Blk.below (unhide HK2) hz2 (by have := unhide HSX; omega)
    have hy1 := hy0.set_ 0 (.slice none 0 0)
    have hy2 := hy1.set_ 1 (.slice none 0 0)
    have y0 := hy2.cell 0
    have y1 := hy2.cell 1
    refine bodyPost_ret (v := .tuple #[.agg #[.slice none 0 0, .slice none 0 0], .int .i64 2]) (by simp [results, Try.results14, go_sem, y0, y1]) rfl ?_
    rw [unhide HF]
    exact ⟨noTly, rfl, noTly_ok _ _, rfl, rfl, (((unhide HBX).trans (hz2.mono (unhide HBX).size)).setCell (by show w.heap.size ≤ w.heap.size + 2; omega) _).setCell (by show w.heap.size ≤ w.heap.size + 2; omega) _⟩
  by_cases hc2 : 1048576 < count
  · have HF := hide (show doP mv us ⟨1, k, dst, count⟩ = (([], []), 2) by
      unfold doP
      dsimp only
      refine Eq.trans (if_neg (by rw [unhide HTP]; simp)) ?_
      refine Eq.trans (if_neg (by simp)) ?_
      exact if_pos (by right; right; right; exact hc2))
    have hc1' : 1 ≤ count := by omega
    clear hc1

    go_enter Try.func14, Try.ntmps14
    go_wp2_with fail
    rw [← unhide HWX]
    refine (unhide HM').mono ?_
    rintro _ w1 ⟨rfl, hb1⟩
    have hz1 : Below wx.heap.size wx w1 := hb1
    clear hb1 hz0
    go_wp2_with fail

    refine ((unhide HTH k w1).mono fun e w' he => (show e = .returned (.bool true) ∧ Below w1.heap.size w1 w' from ⟨by rw [he.1, unhide HTW], he.2⟩)).mono ?_
    rintro _ w2 ⟨rfl, hb2⟩
    have hz2 : Below wx.heap.size wx w2 := hz1.trans (hb2.mono hz1.size)
    clear hb2 hz1
    go_wp2_with fail

    have hy0 := Blk.below (unhide HK2) hz2 (by have := unhide HSX; omega)
    have hy1 := hy0.set_ 0 (.slice none 0 0)
    have hy2 := hy1.set_ 1 (.slice none 0 0)
    have y0 := hy2.cell 0
    have y1 := hy2.cell 1
    refine bodyPost_ret (v := .tuple #[.agg #[.slice none 0 0, .slice none 0 0], .int .i64 2]) (by simp [results, Try.results14, go_sem, y0, y1]) rfl ?_
    rw [unhide HF]
    exact ⟨noTly, rfl, noTly_ok _ _, rfl, rfl, (((unhide HBX).trans (hz2.mono (unhide HBX).size)).setCell (by show w.heap.size ≤ w.heap.size + 2; omega) _).setCell (by show w.heap.size ≤ w.heap.size + 2; omega) _⟩
  have hc1' : 1 ≤ count := by omega
  have hc2' : count ≤ 1048576 := by omega
  clear hc1 hc2
  have hx0 := (unhide HNM k k hkn hkn).1
  have hx1 := (unhide HNM k k hkn hkn).2
  by_cases hs : 1048576 < cellM mv k k + count
  · have HF := hide (show doP mv us ⟨1, k, dst, count⟩ = (([], []), 12) by
      unfold doP
      dsimp only
      refine Eq.trans (if_neg (by rw [unhide HTP]; simp)) ?_
      refine Eq.trans (if_neg (by simp)) ?_
      refine Eq.trans (if_neg (by rintro (h | h | h | h); exact h ⟨by omega, by rw [unhide HUN]; omega⟩; exact absurd h.1 (by simp); omega; omega)) ?_
      refine Eq.trans (if_neg (by simp)) ?_
      refine Eq.trans (if_neg (by simp)) ?_
      exact if_pos hs)

    go_enter Try.func14, Try.ntmps14
    go_wp2_with fail
    rw [← unhide HWX]
    refine (unhide HM').mono ?_
    rintro _ w1 ⟨rfl, hb1⟩
    have hz1 : Below wx.heap.size wx w1 := hb1
    clear hb1 hz0
    go_wp2_with fail

    refine ((unhide HTH k w1).mono fun e w' he => (show e = .returned (.bool true) ∧ Below w1.heap.size w1 w' from ⟨by rw [he.1, unhide HTW], he.2⟩)).mono ?_
    rintro _ w2 ⟨rfl, hb2⟩
    have hz2 : Below wx.heap.size wx w2 := hz1.trans (hb2.mono hz1.size)
    clear hb2 hz1
    go_wp2_with fail

    go_quiet (fail)
    go_wp2_with fail
    have hz3 : Below wx.heap.size wx (w2.drewN nq) := below_drewN hz2 nq
    generalize w2.drewN nq = w3 at hz3 ⊢
    clear hz2

    refine (unhide HCP w3 ((unhide HBX).trans (hz3.mono (unhide HBX).size))).mono ?_
    rintro _ w4 ⟨v, u, L, rfl, hOT, hOR, hLz, huz, hb4⟩
    have hz4 : Below wx.heap.size wx w4 := hz3.trans (hb4.mono hz3.size)
    obtain ⟨A2, c2, rfl, hMS⟩ := MState.start (n := n) (World.ownsRow.mono hOT hz3.size) (hOR.mono hz3.size) hLz huz (unhide HUN) (unhide HMN) hz4
    have huv : u.val = .slice (some ⟨u.g, 0, none⟩) n u.cap := orw_val (by rw [huz]; exact unhide HUN)
    rw [huv]
    have HMG := hide (show wx.heap.size ≤ w4.heap.size from hz4.size)
    have hlt0 : w.heap.size < w4.heap.size := by have := unhide HSX; have := hz4.size; omega
    have hlt1 : w.heap.size + 1 < w4.heap.size := by have := unhide HSX; have := hz4.size; omega
    have hlt2 : w.heap.size + 2 < w4.heap.size := by have := unhide HSX; have := hz4.size; omega
    have HMS := hide hMS
    clear hOT hOR hLz huz hb4 hMS huv hz3
    generalize u.g = ug at HMS ⊢
    generalize u.cap = ucap at HMS ⊢
    obtain ⟨_, _, hnuc, hucm0, _, _, _⟩ := (unhide HMS).used
    have hucm : ucap ≤ 9223372036854775807 := by unfold maxLen at hucm0; omega
    clear hucm0
    go_wp2_with fail
    have hzq := (unhide HMS).below
    generalize w4.alloc (.cells #[.slice A2 n c2, .slice (some ⟨ug, 0, none⟩) n ucap] 25) = wq at HMS hzq ⊢
    generalize w4.heap.size = M at HMS HMG hlt0 hlt1 hlt2 ⊢
    clear hz4

    obtain ⟨hb, ho, g, cap, zs, T, rfl, hc1, hc2, hcell, hB0, hzc, hcapm, hzk, hI, hupd⟩ := (unhide HMS).row (show k < n by omega)
    have hzl : zs.length = n := unhide HMR _ (List.mem_of_getElem? hzk)
    rw [hzl] at hcell hzc
    unfold maxLen at hc2 hcapm
    have m0 : wq.cell? ⟨M, 0, none⟩ = some (.slice (some ⟨hb, ho, none⟩) n c2) := (unhide HMS).blk.cell 0
    have hjn : (k : Int) < (n : Int) := by omega
    have HZK := hide hzk
    have HZL := hide hzl
    have HII := hide hI
    have HUP := hide hupd
    clear hzk hzl hI hupd
    go_quiet (fail)
    go_wp2_with fail
    have HII' := hide (show IRow (wq.drewN nq) g zs T from unhide HII)
    have HUP' := hide (fun w2 zs' (hg : (wq.drewN nq).grownBy w2 (some g)) (h1 : IRow w2 g zs' T) (h2 : zs'.length = zs.length) => unhide HUP w2 zs' ⟨hg.os, hg.tape, hg.output, hg.size, hg.block⟩ h1 h2)
    have hzd : Below wx.heap.size wx (wq.drewN nq) := below_drewN hzq nq
    clear HII HUP HMS hzq m0 hcell
    generalize wq.drewN nq = wz at HII' HUP' hzd ⊢
    have i1 : wz.cell? ⟨g, k, none⟩ = some (.int .i64 (cellM mv k k)) := (unhide HII').cell (cellM_get (unhide HZK) (by rw [unhide HZL]; omega))
    have j1 : wz.frozen? ⟨g, k, none⟩ = false := IRow.frozen (unhide HII') _
    have hg9 : wz.grownBy (wz.setCell ⟨g, k, none⟩ (.int .i64 (cellM mv k k + count))) (some g) := only_setCell (World.grownBy.refl wz _) (.inl rfl) _
    have HS9 := hide (unhide HUP' _ _ hg9 ((unhide HII').set_ (by rw [unhide HZL]; omega) _) (by rw [List.length_set]))
    have s1 := ((unhide HII').set_ (k := k) (by rw [unhide HZL]; omega) (cellM mv k k + count)).cell (k := k) (List.getElem?_set_self (by rw [unhide HZL]; omega))
    clear hg9 HUP' HII'
    have hzy := (unhide HS9).below
    have m0 := (unhide HS9).blk.cell 0
    have m1 := (unhide HS9).blk.cell 1
    have e0 := z0 _ hzy
    have e1 := z1 _ hzy
    have e2 := f0 _ hzy
    have e3 := f1 _ hzy
    go_still_tail 7, (by kernel_rfl)
    go_wp2_with fail
    generalize (wz.setCell ⟨g, k, none⟩ (.int .i64 (cellM mv k k + count))) = wy at HS9 hzy e0 e1 e2 e3 m0 m1 s1 ⊢

    have hy0 := Blk.below (unhide HK2) hzy (by have := unhide HSX; omega)
    have hy1 := hy0.set_ 0 (.slice none 0 0)
    have hy2 := hy1.set_ 1 (.slice none 0 0)
    have y0 := hy2.cell 0
    have y1 := hy2.cell 1
    refine bodyPost_ret (v := .tuple #[.agg #[.slice none 0 0, .slice none 0 0], .int .i64 12]) (by simp [results, Try.results14, go_sem, y0, y1]) rfl ?_
    rw [unhide HF]
    exact ⟨noTly, rfl, noTly_ok _ _, rfl, rfl, ((((unhide HBX).trans (hzy.mono (unhide HBX).size)).setCell (by show w.heap.size ≤ w.heap.size + 2; omega) _).setCell (by show w.heap.size ≤ w.heap.size + 2; omega) _).drew⟩
  have hs' : cellM mv k k + count ≤ 1048576 := by omega
  have HF := hide (show doP mv us ⟨1, k, dst, count⟩ = ((mv.set k ((mv.getD k []).set k (cellM mv k k + count)), us), 0) by
    unfold doP
    dsimp only
    refine Eq.trans (if_neg (by rw [unhide HTP]; simp)) ?_
    refine Eq.trans (if_neg (by simp)) ?_
    refine Eq.trans (if_neg (by rintro (h | h | h | h); exact h ⟨by omega, by rw [unhide HUN]; omega⟩; exact absurd h.1 (by simp); omega; omega)) ?_
    refine Eq.trans (if_neg (by simp)) ?_
    refine Eq.trans (if_neg (by simp)) ?_
    exact if_neg hs)
  clear hs

  go_enter Try.func14, Try.ntmps14
  go_wp2_with fail
  rw [← unhide HWX]
  refine (unhide HM').mono ?_
  rintro _ w1 ⟨rfl, hb1⟩
  have hz1 : Below wx.heap.size wx w1 := hb1
  clear hb1 hz0
  go_wp2_with fail

  refine ((unhide HTH k w1).mono fun e w' he => (show e = .returned (.bool true) ∧ Below w1.heap.size w1 w' from ⟨by rw [he.1, unhide HTW], he.2⟩)).mono ?_
  rintro _ w2 ⟨rfl, hb2⟩
  have hz2 : Below wx.heap.size wx w2 := hz1.trans (hb2.mono hz1.size)
  clear hb2 hz1
  go_wp2_with fail

  go_quiet (fail)
  go_wp2_with fail
  have hz3 : Below wx.heap.size wx (w2.drewN nq) := below_drewN hz2 nq
  generalize w2.drewN nq = w3 at hz3 ⊢
  clear hz2

  refine (unhide HCP w3 ((unhide HBX).trans (hz3.mono (unhide HBX).size))).mono ?_
  rintro _ w4 ⟨v, u, L, rfl, hOT, hOR, hLz, huz, hb4⟩
  have hz4 : Below wx.heap.size wx w4 := hz3.trans (hb4.mono hz3.size)
  obtain ⟨A2, c2, rfl, hMS⟩ := MState.start (n := n) (World.ownsRow.mono hOT hz3.size) (hOR.mono hz3.size) hLz huz (unhide HUN) (unhide HMN) hz4
  have huv : u.val = .slice (some ⟨u.g, 0, none⟩) n u.cap := orw_val (by rw [huz]; exact unhide HUN)
  rw [huv]
  have HMG := hide (show wx.heap.size ≤ w4.heap.size from hz4.size)
  have hlt0 : w.heap.size < w4.heap.size := by have := unhide HSX; have := hz4.size; omega
  have hlt1 : w.heap.size + 1 < w4.heap.size := by have := unhide HSX; have := hz4.size; omega
  have hlt2 : w.heap.size + 2 < w4.heap.size := by have := unhide HSX; have := hz4.size; omega
  have HMS := hide hMS
  clear hOT hOR hLz huz hb4 hMS huv hz3
  generalize u.g = ug at HMS ⊢
  generalize u.cap = ucap at HMS ⊢
  obtain ⟨_, _, hnuc, hucm0, _, _, _⟩ := (unhide HMS).used
  have hucm : ucap ≤ 9223372036854775807 := by unfold maxLen at hucm0; omega
  clear hucm0
  go_wp2_with fail
  have hzq := (unhide HMS).below
  generalize w4.alloc (.cells #[.slice A2 n c2, .slice (some ⟨ug, 0, none⟩) n ucap] 25) = wq at HMS hzq ⊢
  generalize w4.heap.size = M at HMS HMG hlt0 hlt1 hlt2 ⊢
  clear hz4

  obtain ⟨hb, ho, g, cap, zs, T, rfl, hc1, hc2, hcell, hB0, hzc, hcapm, hzk, hI, hupd⟩ := (unhide HMS).row (show k < n by omega)
  have hzl : zs.length = n := unhide HMR _ (List.mem_of_getElem? hzk)
  rw [hzl] at hcell hzc
  unfold maxLen at hc2 hcapm
  have m0 : wq.cell? ⟨M, 0, none⟩ = some (.slice (some ⟨hb, ho, none⟩) n c2) := (unhide HMS).blk.cell 0
  have hjn : (k : Int) < (n : Int) := by omega
  have HZK := hide hzk
  have HZL := hide hzl
  have HII := hide hI
  have HUP := hide hupd
  clear hzk hzl hI hupd
  go_quiet (fail)
  go_wp2_with fail
  have HII' := hide (show IRow (wq.drewN nq) g zs T from unhide HII)
  have HUP' := hide (fun w2 zs' (hg : (wq.drewN nq).grownBy w2 (some g)) (h1 : IRow w2 g zs' T) (h2 : zs'.length = zs.length) => unhide HUP w2 zs' ⟨hg.os, hg.tape, hg.output, hg.size, hg.block⟩ h1 h2)
  have hzd : Below wx.heap.size wx (wq.drewN nq) := below_drewN hzq nq
  clear HII HUP HMS hzq m0 hcell
  generalize wq.drewN nq = wz at HII' HUP' hzd ⊢
  have i1 : wz.cell? ⟨g, k, none⟩ = some (.int .i64 (cellM mv k k)) := (unhide HII').cell (cellM_get (unhide HZK) (by rw [unhide HZL]; omega))
  have j1 : wz.frozen? ⟨g, k, none⟩ = false := IRow.frozen (unhide HII') _
  have hg9 : wz.grownBy (wz.setCell ⟨g, k, none⟩ (.int .i64 (cellM mv k k + count))) (some g) := only_setCell (World.grownBy.refl wz _) (.inl rfl) _
  have HS9 := hide (unhide HUP' _ _ hg9 ((unhide HII').set_ (by rw [unhide HZL]; omega) _) (by rw [List.length_set]))
  have s1 := ((unhide HII').set_ (k := k) (by rw [unhide HZL]; omega) (cellM mv k k + count)).cell (k := k) (List.getElem?_set_self (by rw [unhide HZL]; omega))
  clear hg9 HUP' HII'
  have hzy := (unhide HS9).below
  have m0 := (unhide HS9).blk.cell 0
  have m1 := (unhide HS9).blk.cell 1
  have e0 := z0 _ hzy
  have e1 := z1 _ hzy
  have e2 := f0 _ hzy
  have e3 := f1 _ hzy
  go_still_tail 7, (by kernel_rfl)
  go_wp2_with fail
  generalize (wz.setCell ⟨g, k, none⟩ (.int .i64 (cellM mv k k + count))) = wy at HS9 hzy e0 e1 e2 e3 m0 m1 s1 ⊢
  have HZM := hide (show mv.getD k [] = zs by rw [List.getD_eq_getElem?_getD, unhide HZK]; rfl)
  rw [unhide HZM] at HF

  have hy0 := Blk.below (unhide HK2) hzy (by have := unhide HSX; omega)
  have hy1 := hy0.set_ 0 (.slice (some ⟨hb, ho, none⟩) n c2)
  have hy2 := hy1.set_ 1 (.slice (some ⟨ug, 0, none⟩) n ucap)
  have y0 := hy2.cell 0
  have y1 := hy2.cell 1
  have hMM := unhide HMG
  have hSS := unhide HSX
  obtain ⟨t, hv, hok, hmv, huz⟩ := (((unhide HS9).weak (unhide HBX) (unhide HBX).size).far hy0 (by omega) (by omega) 0 (.slice (some ⟨hb, ho, none⟩) n c2) |>.far hy1 (by omega) (by omega) 1 (.slice (some ⟨ug, 0, none⟩) n ucap)).read
  refine bodyPost_ret (v := .tuple #[.agg #[.slice (some ⟨hb, ho, none⟩) n c2, .slice (some ⟨ug, 0, none⟩) n ucap], .int .i64 0]) (by simp [results, Try.results14, go_sem, y0, y1]) rfl ?_
  rw [unhide HF]
  exact ⟨t, by rw [hv], hok, hmv, huz, ((((unhide HBX).trans (hzy.mono (unhide HBX).size)).setCell (by show w.heap.size ≤ w.heap.size + 2; omega) _).setCell (by show w.heap.size ≤ w.heap.size + 2; omega) _).drew⟩
end Go.Proofs.Ytjhgnblakmhncaa
