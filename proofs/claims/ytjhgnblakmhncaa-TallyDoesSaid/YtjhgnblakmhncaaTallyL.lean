/- Contract of tally.Do. Conditions: none beyond what the theorem states. -/
import Derived.Test.YtjhgnblakmhncaaTallyK
namespace Go.Proofs.Ytjhgnblakmhncaa
open Go.RowKit
set_option linter.unusedVariables false

set_option maxHeartbeats 4000000 in
theorem tallyDo_any (t : Tly) (kind who dst count : Int) (B : Nat) (w : World) (ht : t.ok w B) (hB : B ≤ w.heap.size) :
    Calls Try.prog 14 #[t.val, .agg #[.int .i64 kind, .int .i64 who, .int .i64 dst, .int .i64 count]] w fun e w' => TlyPost w.heap.size (doP t.mv t.u.zs ⟨kind, who, dst, count⟩) e w w' := by
  cases hg : tallyP t.mv t.u.zs with
  | true =>
    by_cases h3 : kind = 3
    · subst h3; exact tallyDo_3 t who dst count B w ht hB hg
    by_cases h2 : kind = 2
    · subst h2; exact tallyDo_2 t who dst count B w ht hB hg
    by_cases h1 : kind = 1
    · subst h1; exact tallyDo_1 t who dst count B w ht hB hg
    have HKD := hide (show kind < 1 ∨ 3 < kind by omega)
    clear h1 h2 h3
    have HGOOD := hide (tallyP_good hg)
    have hun : t.u.n ≤ 9223372036854775807 := by have h1 := ht.2.2.2.2.1; have h2 := ht.2.2.2.2.2.1; unfold maxLen at h2; omega
    have HM := hide (fun W (hW : Below w.heap.size w W) => (tallyMay_any t B W (ht.below (hW.mono hB)) (Nat.le_trans hB hW.size)))
    have HTH := hide (fun (z : Int) W => there_any t z W hun)
    have HLF := hide (fun (k : Nat) (hk : k < t.u.zs.length) W (hW : Below w.heap.size w W) => by
      obtain ⟨b, o, ub, uo, h1, h2, h3, h4, h5, h6, h7, _, h8⟩ := tly_grid ht hg
      exact (show Calls Try.prog 20 #[t.val, .int .i64 k] W fun e w' => e = .returned (.int .i64 (leftV t.mv t.u.zs k)) ∧ Below W.heap.size W w' from left_any t B W k _ b o ub uo _ _ (Nat.le_trans hB hW.size) (h8 W (hW.mono hB)) h1 h2 hk h3 h4 h5 h6 h7))
    have HCP := hide (fun W (hW : Below w.heap.size w W) => copied_any t B W (ht.below (hW.mono hB)) (Nat.le_trans hB hW.size) hg)
    rw [hg] at HM
    have HTP := hide hg
    have HUN := hide (show t.u.zs.length = t.u.n from ht.2.2.2.1)
    obtain ⟨A, m, c, rs, ⟨uA, n, uc, us⟩⟩ := t
    unfold Tly.val at HM HTH HLF HCP ⊢
    dsimp only at hun HM HTH HLF HCP HTP HUN HGOOD ⊢
    clear ht hg
    generalize Tly.mv ⟨A, m, c, rs, ⟨uA, n, uc, us⟩⟩ = mv at *
    have hn8 : n ≤ 8 := by have := (unhide HGOOD).2.1; rw [unhide HUN] at this; exact this
    have HMN := hide (show mv.length = n by have := (unhide HGOOD).2.2.2.1; rw [unhide HUN] at this; exact this)
    have HMR := hide (show ∀ l ∈ mv, l.length = n from fun l hl => by have := ((unhide HGOOD).2.2.2.2 l hl).1; rw [unhide HUN] at this; exact this)
    have HNU := hide (show ∀ j, j < n → 0 ≤ cellU us j ∧ cellU us j ≤ 1048576 from fun j hj =>
      (unhide HGOOD).2.2.1 _ (List.mem_of_getElem? (cellU_get (by rw [unhide HUN]; exact hj))))
    have HNM := hide (show ∀ i j, i < n → j < n → 0 ≤ cellM mv i j ∧ cellM mv i j ≤ 1048576 from fun i j hi hj => by
      obtain ⟨x, hx⟩ : ∃ x, mv[i]? = some x := ⟨_, List.getElem?_eq_getElem (by rw [unhide HMN]; exact hi)⟩
      exact ((unhide HGOOD).2.2.2.2 x (List.mem_of_getElem? hx)).2 _ (List.mem_of_getElem? (cellM_get hx (by rw [unhide HMR x (List.mem_of_getElem? hx)]; exact hj))))
    obtain ⟨wx, hwx⟩ : ∃ wx, wx = ((w.alloc (.cells #[.slice A m c, .slice uA n uc] 25)).alloc (.cells #[.int .i64 kind, .int .i64 who, .int .i64 dst, .int .i64 count] 35)).alloc (.cells #[.slice none 0 0, .slice none 0 0] 25) := ⟨_, rfl⟩
    have hbx : Below w.heap.size w wx := by rw [hwx]; exact (((Below.refl _ _).alloc (Nat.le_refl _) _).alloc (by simp) _).alloc (by simp; omega) _
    have hsx : wx.heap.size = w.heap.size + 3 := by rw [hwx]; simp
    have k0 : Blk wx w.heap.size 25 #[.slice A m c, .slice uA n uc] := by rw [hwx]; exact ((Blk.new w 25 _).alloc _).alloc _
    have k1 : Blk wx (w.heap.size + 1) 35 #[.int .i64 kind, .int .i64 who, .int .i64 dst, .int .i64 count] := by
      rw [hwx]
      have h := (Blk.new (w.alloc (.cells #[.slice A m c, .slice uA n uc] 25)) 35 #[.int .i64 kind, .int .i64 who, .int .i64 dst, .int .i64 count]).alloc (.cells #[.slice none 0 0, .slice none 0 0] 25)
      simpa using h
    have k2 : Blk wx (w.heap.size + 2) 25 #[.slice none 0 0, .slice none 0 0] := by
      rw [hwx]
      have h := Blk.new ((w.alloc (.cells #[.slice A m c, .slice uA n uc] 25)).alloc (.cells #[.int .i64 kind, .int .i64 who, .int .i64 dst, .int .i64 count] 35)) 25 #[.slice none 0 0, .slice none 0 0]
      simpa using h
    have HSX := hide (show w.heap.size + 3 ≤ wx.heap.size by omega)
    have q0 : ∀ W, Below wx.heap.size wx W → W.cell? ⟨w.heap.size, 0, none⟩ = some (.slice A m c) := fun W hW => (Blk.below k0 hW (by omega)).cell 0
    have q1 : ∀ W, Below wx.heap.size wx W → W.cell? ⟨w.heap.size, 1, none⟩ = some (.slice uA n uc) := fun W hW => (Blk.below k0 hW (by omega)).cell 1
    have d0 : ∀ W, Below wx.heap.size wx W → W.cell? ⟨w.heap.size + 1, 0, none⟩ = some (.int .i64 kind) := fun W hW => (Blk.below k1 hW (by omega)).cell 0
    have d1 : ∀ W, Below wx.heap.size wx W → W.cell? ⟨w.heap.size + 1, 1, none⟩ = some (.int .i64 who) := fun W hW => (Blk.below k1 hW (by omega)).cell 1
    have d2 : ∀ W, Below wx.heap.size wx W → W.cell? ⟨w.heap.size + 1, 2, none⟩ = some (.int .i64 dst) := fun W hW => (Blk.below k1 hW (by omega)).cell 2
    have d3 : ∀ W, Below wx.heap.size wx W → W.cell? ⟨w.heap.size + 1, 3, none⟩ = some (.int .i64 count) := fun W hW => (Blk.below k1 hW (by omega)).cell 3
    have z0 : ∀ W, Below wx.heap.size wx W → W.cell? ⟨w.heap.size + 2, 0, none⟩ = some (.slice none 0 0) := fun W hW => (Blk.below k2 hW (by omega)).cell 0
    have z1 : ∀ W, Below wx.heap.size wx W → W.cell? ⟨w.heap.size + 2, 1, none⟩ = some (.slice none 0 0) := fun W hW => (Blk.below k2 hW (by omega)).cell 1
    have f0 : ∀ W, Below wx.heap.size wx W → W.frozen? ⟨w.heap.size + 2, 0, none⟩ = false := fun W hW => (Blk.below k2 hW (by omega)).frozen 0
    have f1 : ∀ W, Below wx.heap.size wx W → W.frozen? ⟨w.heap.size + 2, 1, none⟩ = false := fun W hW => (Blk.below k2 hW (by omega)).frozen 1
    have hz0 : Below wx.heap.size wx wx := Below.refl _ _
    have HBX := hide hbx
    have HWX := hide hwx
    have HK0 := hide k0
    have HK1 := hide k1
    have HK2 := hide k2
    have HM' := hide (unhide HM wx hbx)
    clear hbx hwx hsx k0 k1 k2 HM
    have HF := hide (show doP mv us ⟨kind, who, dst, count⟩ = (([], []), 3) by
      unfold doP
      dsimp only
      refine Eq.trans (if_neg (by rw [unhide HTP]; simp)) ?_
      exact if_pos (unhide HKD))
    by_cases hk : kind < 1
    · go_enter Try.func14, Try.ntmps14
      go_wp2_with fail
      rw [← unhide HWX]
      refine (unhide HM').mono ?_
      rintro _ w1 ⟨rfl, hb1⟩
      have hz1 : Below wx.heap.size wx w1 := hb1
      clear hb1 hz0
      go_wp2_with fail

      have hy0 := Blk.below (unhide HK2) hz1 (by have := unhide HSX; omega)
      have hy1 := hy0.set_ 0 (.slice none 0 0)
      have hy2 := hy1.set_ 1 (.slice none 0 0)
      have y0 := hy2.cell 0
      have y1 := hy2.cell 1
      refine bodyPost_ret (v := .tuple #[.agg #[.slice none 0 0, .slice none 0 0], .int .i64 3]) (by simp [results, Try.results14, go_sem, y0, y1]) rfl ?_
      rw [unhide HF]
      exact ⟨noTly, rfl, noTly_ok _ _, rfl, rfl, (((unhide HBX).trans (hz1.mono (unhide HBX).size)).setCell (by show w.heap.size ≤ w.heap.size + 2; omega) _).setCell (by show w.heap.size ≤ w.heap.size + 2; omega) _⟩
    · have hk0 : 1 ≤ kind := by omega
      have hk3 : 3 < kind := by have := unhide HKD; omega
      clear hk

      go_enter Try.func14, Try.ntmps14
      go_wp2_with fail
      rw [← unhide HWX]
      refine (unhide HM').mono ?_
      rintro _ w1 ⟨rfl, hb1⟩
      have hz1 : Below wx.heap.size wx w1 := hb1
      clear hb1 hz0
      go_wp2_with fail

      have hy0 := Blk.below (unhide HK2) hz1 (by have := unhide HSX; omega)
      have hy1 := hy0.set_ 0 (.slice none 0 0)
      have hy2 := hy1.set_ 1 (.slice none 0 0)
      have y0 := hy2.cell 0
      have y1 := hy2.cell 1
      refine bodyPost_ret (v := .tuple #[.agg #[.slice none 0 0, .slice none 0 0], .int .i64 3]) (by simp [results, Try.results14, go_sem, y0, y1]) rfl ?_
      rw [unhide HF]
      exact ⟨noTly, rfl, noTly_ok _ _, rfl, rfl, (((unhide HBX).trans (hz1.mono (unhide HBX).size)).setCell (by show w.heap.size ≤ w.heap.size + 2; omega) _).setCell (by show w.heap.size ≤ w.heap.size + 2; omega) _⟩
  | false =>
    have HM := hide (fun W (hW : Below w.heap.size w W) => (tallyMay_any t B W (ht.below (hW.mono hB)) (Nat.le_trans hB hW.size)))
    rw [hg] at HM
    have HTP := hide hg
    obtain ⟨A, m, c, rs, ⟨uA, n, uc, us⟩⟩ := t
    unfold Tly.val at HM ⊢
    dsimp only at HM HTP ⊢
    clear ht hg
    generalize Tly.mv ⟨A, m, c, rs, ⟨uA, n, uc, us⟩⟩ = mv at *
    have HF := hide (show doP mv us ⟨kind, who, dst, count⟩ = (([], []), 4) by
      unfold doP
      exact if_pos (unhide HTP))
    obtain ⟨wx, hwx⟩ : ∃ wx, wx = ((w.alloc (.cells #[.slice A m c, .slice uA n uc] 25)).alloc (.cells #[.int .i64 kind, .int .i64 who, .int .i64 dst, .int .i64 count] 35)).alloc (.cells #[.slice none 0 0, .slice none 0 0] 25) := ⟨_, rfl⟩
    have hbx : Below w.heap.size w wx := by rw [hwx]; exact (((Below.refl _ _).alloc (Nat.le_refl _) _).alloc (by simp) _).alloc (by simp; omega) _
    have hsx : wx.heap.size = w.heap.size + 3 := by rw [hwx]; simp
    have k0 : Blk wx w.heap.size 25 #[.slice A m c, .slice uA n uc] := by rw [hwx]; exact ((Blk.new w 25 _).alloc _).alloc _
    have k1 : Blk wx (w.heap.size + 1) 35 #[.int .i64 kind, .int .i64 who, .int .i64 dst, .int .i64 count] := by
      rw [hwx]
      have h := (Blk.new (w.alloc (.cells #[.slice A m c, .slice uA n uc] 25)) 35 #[.int .i64 kind, .int .i64 who, .int .i64 dst, .int .i64 count]).alloc (.cells #[.slice none 0 0, .slice none 0 0] 25)
      simpa using h
    have k2 : Blk wx (w.heap.size + 2) 25 #[.slice none 0 0, .slice none 0 0] := by
      rw [hwx]
      have h := Blk.new ((w.alloc (.cells #[.slice A m c, .slice uA n uc] 25)).alloc (.cells #[.int .i64 kind, .int .i64 who, .int .i64 dst, .int .i64 count] 35)) 25 #[.slice none 0 0, .slice none 0 0]
      simpa using h
    have HSX := hide (show w.heap.size + 3 ≤ wx.heap.size by omega)
    have q0 : ∀ W, Below wx.heap.size wx W → W.cell? ⟨w.heap.size, 0, none⟩ = some (.slice A m c) := fun W hW => (Blk.below k0 hW (by omega)).cell 0
    have q1 : ∀ W, Below wx.heap.size wx W → W.cell? ⟨w.heap.size, 1, none⟩ = some (.slice uA n uc) := fun W hW => (Blk.below k0 hW (by omega)).cell 1
    have d0 : ∀ W, Below wx.heap.size wx W → W.cell? ⟨w.heap.size + 1, 0, none⟩ = some (.int .i64 kind) := fun W hW => (Blk.below k1 hW (by omega)).cell 0
    have d1 : ∀ W, Below wx.heap.size wx W → W.cell? ⟨w.heap.size + 1, 1, none⟩ = some (.int .i64 who) := fun W hW => (Blk.below k1 hW (by omega)).cell 1
    have d2 : ∀ W, Below wx.heap.size wx W → W.cell? ⟨w.heap.size + 1, 2, none⟩ = some (.int .i64 dst) := fun W hW => (Blk.below k1 hW (by omega)).cell 2
    have d3 : ∀ W, Below wx.heap.size wx W → W.cell? ⟨w.heap.size + 1, 3, none⟩ = some (.int .i64 count) := fun W hW => (Blk.below k1 hW (by omega)).cell 3
    have z0 : ∀ W, Below wx.heap.size wx W → W.cell? ⟨w.heap.size + 2, 0, none⟩ = some (.slice none 0 0) := fun W hW => (Blk.below k2 hW (by omega)).cell 0
    have z1 : ∀ W, Below wx.heap.size wx W → W.cell? ⟨w.heap.size + 2, 1, none⟩ = some (.slice none 0 0) := fun W hW => (Blk.below k2 hW (by omega)).cell 1
    have f0 : ∀ W, Below wx.heap.size wx W → W.frozen? ⟨w.heap.size + 2, 0, none⟩ = false := fun W hW => (Blk.below k2 hW (by omega)).frozen 0
    have f1 : ∀ W, Below wx.heap.size wx W → W.frozen? ⟨w.heap.size + 2, 1, none⟩ = false := fun W hW => (Blk.below k2 hW (by omega)).frozen 1
    have hz0 : Below wx.heap.size wx wx := Below.refl _ _
    have HBX := hide hbx
    have HWX := hide hwx
    have HK0 := hide k0
    have HK1 := hide k1
    have HK2 := hide k2
    have HM' := hide (unhide HM wx hbx)
    clear hbx hwx hsx k0 k1 k2 HM
    go_enter Try.func14, Try.ntmps14
    go_wp2_with fail
    rw [← unhide HWX]
    refine (unhide HM').mono ?_
    rintro _ w1 ⟨rfl, hb1⟩
    have hz1 : Below wx.heap.size wx w1 := hb1
    clear hb1 hz0
    go_wp2_with fail

    have hy0 := Blk.below (unhide HK2) hz1 (by have := unhide HSX; omega)
    have hy1 := hy0.set_ 0 (.slice none 0 0)
    have hy2 := hy1.set_ 1 (.slice none 0 0)
    have y0 := hy2.cell 0
    have y1 := hy2.cell 1
    refine bodyPost_ret (v := .tuple #[.agg #[.slice none 0 0, .slice none 0 0], .int .i64 4]) (by simp [results, Try.results14, go_sem, y0, y1]) rfl ?_
    rw [unhide HF]
    exact ⟨noTly, rfl, noTly_ok _ _, rfl, rfl, (((unhide HBX).trans (hz1.mono (unhide HBX).size)).setCell (by show w.heap.size ≤ w.heap.size + 2; omega) _).setCell (by show w.heap.size ≤ w.heap.size + 2; omega) _⟩
end Go.Proofs.Ytjhgnblakmhncaa
