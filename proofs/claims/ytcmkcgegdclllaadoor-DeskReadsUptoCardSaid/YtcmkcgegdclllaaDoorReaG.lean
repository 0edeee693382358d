/- The law DeskReads, walked: it returns true. Conditions: the line's length is at most 1048576. -/
import Derived.Test.YtcmkcgegdclllaaDoorReaF
namespace Go.Proofs.YtcmkcgegdclllaaDoor
open Go.RowKit
set_option linter.unusedVariables false

theorem list_eight {xs : List Int} (h : xs.length = 8) : ∃ x0 x1 x2 x3 x4 x5 x6 x7, xs = [x0, x1, x2, x3, x4, x5, x6, x7] :=
  match xs, h with
  | [a, b, c, d, e, f, g, h], _ => ⟨a, b, c, d, e, f, g, h, rfl⟩
set_option maxRecDepth 100000 in
set_option maxHeartbeats 4000000 in
theorem walk_DeskReads (L : List UInt8) (w : World) (hL : L.length ≤ 1048576) (hT : TabR w) :
    Calls Tryd.prog 5 #[.string (bstr L)] w fun e w' => e = .returned (.bool true) ∧ Below w.heap.size w w' := by
  have H1 := hide (read_any L w hL hT)
  have H2 := hide (fun W => refRead_any L W hL)
  unfold ProgPost at H1
  unfold ReadPost at H2
  obtain ⟨S, hS⟩ : ∃ S, S = bstr L := ⟨_, rfl⟩
  rw [← hS] at H1 H2 ⊢
  clear hS hT hL
  go_enter Tryd.func5, Tryd.ntmps5
  go_upto_region 1 with fail
  go_wp2_with fail
  refine (unhide H1).mono ?_
  rintro _ w1 ⟨xs, c, rfl, ha, hl, hb1⟩
  obtain ⟨x0, x1, x2, x3, x4, x5, x6, x7, rfl⟩ := list_eight hl
  have HA := hide ha
  have HB1 := hide hb1
  clear ha hb1 hl
  unfold stpV
  go_upto_region 2 with fail
  obtain ⟨p, hp⟩ : ∃ p, p = w1.heap.size := ⟨_, rfl⟩
  obtain ⟨w2, hw2⟩ : ∃ w2, w2 = w1.alloc (.cells #[.int .i64 x0, .int .i64 x1, .int .i64 x2, .int .i64 x3, .int .i64 x4, .int .i64 x5, .int .i64 x6, .int .i64 x7] 29) := ⟨_, rfl⟩
  rw [← hw2, ← hp]
  have k2 : Blk w2 p 29 #[.int .i64 x0, .int .i64 x1, .int .i64 x2, .int .i64 x3, .int .i64 x4, .int .i64 x5, .int .i64 x6, .int .i64 x7] := by rw [hw2, hp]; exact Blk.new _ _ _
  have hb2 : Below w.heap.size w w2 := by rw [hw2]; exact (unhide HB1).alloc (unhide HB1).size _
  have HK2 := hide k2
  have HB2 := hide hb2
  clear hp hw2 k2 hb2
  go_wp2_with fail
  refine (unhide H2 w2).mono ?_
  rintro _ w3 ⟨ys, d, rfl, hr, hl, hb3⟩
  obtain ⟨he, rfl⟩ := (unhide HA).uniq hr.ans
  subst he
  have HK3 := hide ((unhide HK2).below hb3 (unhide HK2).lt)
  have HB3 := hide ((unhide HB2).trans (hb3.mono (unhide HB2).size))
  clear hr hl hb3
  unfold stpV
  go_upto_region 3 with fail
  obtain ⟨q, hq⟩ : ∃ q, q = w3.heap.size := ⟨_, rfl⟩
  obtain ⟨w4, hw4⟩ : ∃ w4, w4 = w3.alloc (.cells #[.int .i64 x0, .int .i64 x1, .int .i64 x2, .int .i64 x3, .int .i64 x4, .int .i64 x5, .int .i64 x6, .int .i64 x7] 29) := ⟨_, rfl⟩
  rw [← hw4, ← hq]
  have k4 : Blk w4 p 29 #[.int .i64 x0, .int .i64 x1, .int .i64 x2, .int .i64 x3, .int .i64 x4, .int .i64 x5, .int .i64 x6, .int .i64 x7] := by rw [hw4]; exact (unhide HK3).alloc _
  have l4 : Blk w4 q 29 #[.int .i64 x0, .int .i64 x1, .int .i64 x2, .int .i64 x3, .int .i64 x4, .int .i64 x5, .int .i64 x6, .int .i64 x7] := by rw [hw4, hq]; exact Blk.new _ _ _
  have HB4 := hide (show Below w.heap.size w w4 by rw [hw4]; exact (unhide HB3).alloc (unhide HB3).size _)
  have c0 : w4.cell? ⟨p, 0, none⟩ = some (.int .i64 x0) := k4.cell 0
  have c1 : w4.cell? ⟨p, 1, none⟩ = some (.int .i64 x1) := k4.cell 1
  have c2 : w4.cell? ⟨p, 2, none⟩ = some (.int .i64 x2) := k4.cell 2
  have c3 : w4.cell? ⟨p, 3, none⟩ = some (.int .i64 x3) := k4.cell 3
  have c4 : w4.cell? ⟨p, 4, none⟩ = some (.int .i64 x4) := k4.cell 4
  have c5 : w4.cell? ⟨p, 5, none⟩ = some (.int .i64 x5) := k4.cell 5
  have c6 : w4.cell? ⟨p, 6, none⟩ = some (.int .i64 x6) := k4.cell 6
  have c7 : w4.cell? ⟨p, 7, none⟩ = some (.int .i64 x7) := k4.cell 7
  have d0 : w4.cell? ⟨q, 0, none⟩ = some (.int .i64 x0) := l4.cell 0
  have d1 : w4.cell? ⟨q, 1, none⟩ = some (.int .i64 x1) := l4.cell 1
  have d2 : w4.cell? ⟨q, 2, none⟩ = some (.int .i64 x2) := l4.cell 2
  have d3 : w4.cell? ⟨q, 3, none⟩ = some (.int .i64 x3) := l4.cell 3
  have d4 : w4.cell? ⟨q, 4, none⟩ = some (.int .i64 x4) := l4.cell 4
  have d5 : w4.cell? ⟨q, 5, none⟩ = some (.int .i64 x5) := l4.cell 5
  have d6 : w4.cell? ⟨q, 6, none⟩ = some (.int .i64 x6) := l4.cell 6
  have d7 : w4.cell? ⟨q, 7, none⟩ = some (.int .i64 x7) := l4.cell 7
  clear k4 l4 hw4 hq
  go_wp2_with fail
  go_ret
  exact ⟨rfl, unhide HB4⟩
end Go.Proofs.YtcmkcgegdclllaaDoor
