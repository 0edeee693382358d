/- Contract of the reference's TallyLeft; the walk of the law on tally.Left. Conditions: none beyond what each theorem states. -/
import Derived.Test.YtjhgnblakmhncaaTallyC
namespace Go.Proofs.Ytjhgnblakmhncaa
open Go.RowKit
set_option linter.unusedVariables false

theorem tallyLeft_ref (t : Tly) (who : Int) (B : Nat) (w : World) (ht : t.ok w B) (hB : B ≤ w.heap.size) :
    Calls Try.prog 10 #[t.val, .int .i64 who] w fun e w' => e = .returned (.tuple #[.int .i64 (leftP t.mv t.u.zs who).1, .int .i64 (leftP t.mv t.u.zs who).2]) ∧ Below w.heap.size w w' := by
  have hun : t.u.n ≤ 9223372036854775807 := by have h1 := ht.2.2.2.2.1; have h2 := ht.2.2.2.2.2.1; unfold maxLen at h2; omega
  have H1 := hide (fun W (hW : Below w.heap.size w W) => tallyMay_ref t B W (ht.below (hW.mono hB)) (Nat.le_trans hB hW.size))
  have H3 := hide (fun (h : tallyP t.mv t.u.zs = true) (k : Nat) (hk : k < t.u.zs.length) W (hW : Below w.heap.size w W) => by
    obtain ⟨b, o, ub, uo, h1, h2, h3, h4, h5, h6, h7, _, h8⟩ := tly_grid ht h
    exact leftRef_any t B W k _ b o ub uo _ _ (Nat.le_trans hB hW.size) (h8 W (hW.mono hB)) h1 h2 hk h3 h4 h5 h6 h7)
  have HUN := hide (show t.u.zs.length = t.u.n from ht.2.2.2.1)
  obtain ⟨A, m, c, rs, ⟨uA, n, uc, us⟩⟩ := t
  have HT := hide ht
  unfold Tly.val at H1 H3 ⊢
  dsimp only at hun H1 H3 HUN ⊢
  obtain ⟨wx, hwx⟩ : ∃ wx, wx = w.alloc (.cells #[.slice A m c, .slice uA n uc] 25) := ⟨_, rfl⟩
  have hbx : Below w.heap.size w wx := by rw [hwx]; exact (Below.refl _ _).alloc (Nat.le_refl _) _
  have hnew := Blk.new w 25 #[.slice A m c, .slice uA n uc]
  rw [← hwx] at hnew
  have g0 : wx.cell? ⟨w.heap.size, 0, none⟩ = some (.slice A m c) := hnew.cell 0
  have g1 : wx.cell? ⟨w.heap.size, 1, none⟩ = some (.slice uA n uc) := hnew.cell 1
  have hsx : w.heap.size < wx.heap.size := by rw [hwx]; simp
  have HBX := hide hbx
  have HG0 := hide g0
  have HG1 := hide g1
  have HWX := hide hwx
  clear hnew hwx hbx ht
  generalize hmv : Tly.mv ⟨A, m, c, rs, ⟨uA, n, uc, us⟩⟩ = mv at *
  cases htp : tallyP mv us with
  | false =>
    have HF := hide (show leftP mv us who = (0, 4) by simp [leftP, htp])
    have H1' := hide (unhide H1 wx (unhide HBX))
    rw [htp] at H1'
    clear htp hmv H1
    go_enter Try.func10, Try.ntmps10
    go_wp2_with fail
    rw [← unhide HWX]
    refine (unhide H1').mono ?_
    rintro _ w2 ⟨rfl, hb2⟩
    have HB2 := hide ((unhide HBX).trans (hb2.mono (unhide HBX).size))
    clear hb2
    go_wp2_with fail
    go_ret2
    exact ⟨by rw [unhide HF]; rfl, unhide HB2⟩
  | true =>
    have H1' := hide (unhide H1 wx (unhide HBX))
    rw [htp] at H1'
    have H3' := hide (unhide H3 htp)
    by_cases hw0 : who < 0
    · have HF := hide (show leftP mv us who = (0, 2) by
        rw [leftP, htp, if_neg (by simp), if_neg (by omega)])
      clear htp hmv H1 H3 H3'
      go_enter Try.func10, Try.ntmps10
      go_wp2_with fail
      rw [← unhide HWX]
      refine (unhide H1').mono ?_
      rintro _ w2 ⟨rfl, hb2⟩
      have HB2 := hide ((unhide HBX).trans (hb2.mono (unhide HBX).size))
      clear hb2
      go_wp2_with fail
      go_ret2
      exact ⟨by rw [unhide HF]; rfl, unhide HB2⟩
    by_cases hw1 : who < (n : Int)
    · obtain ⟨k, rfl⟩ := Int.eq_ofNat_of_zero_le (show 0 ≤ who by omega)
      have HF := hide (show leftP mv us k = (leftV mv us k, 0) by
        rw [leftP, htp, if_neg (by simp), if_pos ⟨by omega, by rw [unhide HUN]; exact hw1⟩]; rfl)
      have hkn : k < n := by omega
      have H3'' := hide (unhide H3' k (by rw [unhide HUN]; exact hkn))
      clear htp hmv H1 H3 H3' hw0 hw1
      go_enter Try.func10, Try.ntmps10
      go_wp2_with fail
      rw [← unhide HWX]
      refine (unhide H1').mono ?_
      rintro _ w2 ⟨rfl, hb2⟩
      have c0 : w2.cell? ⟨w.heap.size, 0, none⟩ = some (.slice A m c) := (hb2.cell hsx).trans (unhide HG0)
      have c1 : w2.cell? ⟨w.heap.size, 1, none⟩ = some (.slice uA n uc) := (hb2.cell hsx).trans (unhide HG1)
      have HB2 := hide ((unhide HBX).trans (hb2.mono (unhide HBX).size))
      clear hb2
      go_wp2_with fail
      refine (unhide H3'' w2 (unhide HB2)).mono ?_
      rintro _ w4 ⟨rfl, hb4⟩
      have HB4 := hide ((unhide HB2).trans (hb4.mono (unhide HB2).size))
      clear hb4
      go_wp2_with fail
      go_ret2
      exact ⟨by rw [unhide HF]; rfl, unhide HB4⟩
    · have HF := hide (show leftP mv us who = (0, 2) by
        rw [leftP, htp, if_neg (by simp), if_neg (by rw [unhide HUN]; omega)])
      have hw0' : 0 ≤ who := by omega
      have hw1' : (n : Int) ≤ who := by omega
      clear htp hmv H1 H3 H3' hw0 hw1
      go_enter Try.func10, Try.ntmps10
      go_wp2_with fail
      rw [← unhide HWX]
      refine (unhide H1').mono ?_
      rintro _ w2 ⟨rfl, hb2⟩
      have c0 : w2.cell? ⟨w.heap.size, 0, none⟩ = some (.slice A m c) := (hb2.cell hsx).trans (unhide HG0)
      have c1 : w2.cell? ⟨w.heap.size, 1, none⟩ = some (.slice uA n uc) := (hb2.cell hsx).trans (unhide HG1)
      have HB2 := hide ((unhide HBX).trans (hb2.mono (unhide HBX).size))
      clear hb2
      go_wp2_with fail
      go_ret2
      exact ⟨by rw [unhide HF]; rfl, unhide HB2⟩

theorem walk_TallyLefts (t : Tly) (who : Int) (w : World) (ht : t.ok w w.heap.size) (_hw : (Lit.int .i64 who).wf = true) :
    Calls Try.prog 4 #[t.val, .int .i64 who] w fun e w' => e = .returned (.bool true) ∧ Below w.heap.size w w' := by
  have H1 := hide (fun W (hW : Below w.heap.size w W) => tallyLeft_any t who w.heap.size W (ht.below hW) hW.size)
  have H2 := hide (fun W (hW : Below w.heap.size w W) => tallyLeft_ref t who w.heap.size W (ht.below hW) hW.size)
  clear ht
  obtain ⟨r, hr⟩ : ∃ r, leftP t.mv t.u.zs who = r := ⟨_, rfl⟩
  rw [hr] at H1 H2
  obtain ⟨A, m, c, rs, ⟨uA, n, uc, us⟩⟩ := t
  unfold Tly.val at H1 H2 ⊢
  dsimp only at H1 H2 ⊢
  clear hr
  obtain ⟨wx, hwx⟩ : ∃ wx, wx = w.alloc (.cells #[.slice A m c, .slice uA n uc] 25) := ⟨_, rfl⟩
  have hbx : Below w.heap.size w wx := by rw [hwx]; exact (Below.refl _ _).alloc (Nat.le_refl _) _
  have hnew := Blk.new w 25 #[.slice A m c, .slice uA n uc]
  rw [← hwx] at hnew
  have g0 : wx.cell? ⟨w.heap.size, 0, none⟩ = some (.slice A m c) := hnew.cell 0
  have g1 : wx.cell? ⟨w.heap.size, 1, none⟩ = some (.slice uA n uc) := hnew.cell 1
  have hsx : w.heap.size < wx.heap.size := by rw [hwx]; simp
  have HBX := hide hbx
  have HWX := hide hwx
  clear hnew hwx hbx
  go_enter Try.func4, Try.ntmps4
  go_wp2_with fail
  rw [← unhide HWX]
  refine (unhide H1 wx (unhide HBX)).mono ?_
  rintro _ w2 ⟨rfl, hb2⟩
  have c0 : w2.cell? ⟨w.heap.size, 0, none⟩ = some (.slice A m c) := (hb2.cell hsx).trans g0
  have c1 : w2.cell? ⟨w.heap.size, 1, none⟩ = some (.slice uA n uc) := (hb2.cell hsx).trans g1
  have HB2 := hide ((unhide HBX).trans (hb2.mono (unhide HBX).size))
  clear hb2
  go_wp2_with fail
  refine (unhide H2 w2 (unhide HB2)).mono ?_
  rintro _ w3 ⟨rfl, hb3⟩
  have HB3 := hide ((unhide HB2).trans (hb3.mono (unhide HB2).size))
  clear hb3
  go_wp2_with fail
  go_ret
  exact ⟨by simp, unhide HB3⟩
end Go.Proofs.Ytjhgnblakmhncaa
