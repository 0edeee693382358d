/- book.Book: New, call; book.Play. Conditions: none beyond what each theorem states. -/
import Derived.Test.YtiljallignlbgaaBookB
namespace Go.Proofs.Ytiljallignlbgaa
open Go.RowKit
set_option linter.unusedVariables false

theorem bk_made (w : World) (s : Nat) : IRow (w.alloc (.cells (madeCells #[Value.int .i64 0] s) 3)) w.heap.size (List.replicate s 0) [] := by
  unfold IRow
  have e : ((List.replicate s (0 : Int)).map (Value.int .i64) ++ []).toArray = madeCells #[Value.int .i64 0] s := by
    rw [← Array.toList_inj]
    simp [toList_madeCells_one]
  rw [e]
  exact Blk.new w 3 _
theorem bk_new (base nb : Nat) (most ticks : Int) (w : World) (hnb : nb ≤ 8) (hB : base ≤ w.heap.size) (a b c : Nat) (ha : w.heap.size ≤ a ∧ a ≤ w.heap.size + 2) (hb : w.heap.size ≤ b ∧ b ≤ w.heap.size + 2) (hc : w.heap.size ≤ c ∧ c ≤ w.heap.size + 2) (hn : a ≠ b ∧ a ≠ c ∧ b ≠ c) (W : World)
    (hW : W = ((((w.alloc (.cells (madeCells #[Value.int .i64 0] nb) 3)).alloc (.cells (madeCells #[Value.int .i64 0] nb) 3)).alloc (.cells (madeCells #[Value.int .i64 0] nb) 3)).alloc (.cells #[.int .i64 most, .int .i64 ticks, .int .i64 0, .int .i64 0, .int .i64 0, .slice (some ⟨a, 0, none⟩) nb nb, .slice (some ⟨b, 0, none⟩) nb nb, .slice (some ⟨c, 0, none⟩) nb nb] 87)).drew) :
    BkAt W base nb ⟨w.heap.size + 3, a, b, c, nb, []⟩ most ticks (BkS.new nb) ∧ Below w.heap.size w W ∧ ∀ k, BkL.has ⟨w.heap.size + 3, a, b, c, nb, []⟩ k → w.heap.size ≤ k := by
  subst hW
  obtain ⟨w1, hw1⟩ : ∃ w1, w1 = w.alloc (.cells (madeCells #[Value.int .i64 0] nb) 3) := ⟨_, rfl⟩
  obtain ⟨w2, hw2⟩ : ∃ w2, w2 = w1.alloc (.cells (madeCells #[Value.int .i64 0] nb) 3) := ⟨_, rfl⟩
  obtain ⟨w3, hw3⟩ : ∃ w3, w3 = w2.alloc (.cells (madeCells #[Value.int .i64 0] nb) 3) := ⟨_, rfl⟩
  rw [← hw1, ← hw2, ← hw3]
  have s1 : w1.heap.size = w.heap.size + 1 := by rw [hw1]; simp
  have s2 : w2.heap.size = w.heap.size + 2 := by rw [hw2]; simp [s1]
  have s3 : w3.heap.size = w.heap.size + 3 := by rw [hw3]; simp [s2]
  have r1 : IRow w1 w.heap.size (List.replicate nb 0) [] := by rw [hw1]; exact bk_made w nb
  have r2 : IRow w2 (w.heap.size + 1) (List.replicate nb 0) [] := by rw [hw2, ← s1]; exact bk_made w1 nb
  have r3 : IRow w3 (w.heap.size + 2) (List.replicate nb 0) [] := by rw [hw3, ← s2]; exact bk_made w2 nb
  have b1 : Below w.heap.size w w1 := by rw [hw1]; exact (Below.refl _ _).alloc (Nat.le_refl _) _
  have b2 : Below w1.heap.size w1 w2 := by rw [hw2]; exact (Below.refl _ _).alloc (Nat.le_refl _) _
  have b3 : Below w2.heap.size w2 w3 := by rw [hw3]; exact (Below.refl _ _).alloc (Nat.le_refl _) _
  have q1 : IRow w3 w.heap.size (List.replicate nb 0) [] := Blk.below (Blk.below r1 b2 (Blk.lt r1)) b3 (by omega)
  have q2 : IRow w3 (w.heap.size + 1) (List.replicate nb 0) [] := Blk.below r2 b3 (by omega)
  have hz : ∀ k, w.heap.size ≤ k → k ≤ w.heap.size + 2 → ∀ o, IRow ((w3.alloc o).drew) k (List.replicate nb 0) [] := fun k h1 h2 o => by
    have h3 : IRow w3 k (List.replicate nb 0) [] := by
      rcases (show k = w.heap.size ∨ k = w.heap.size + 1 ∨ k = w.heap.size + 2 by omega) with rfl | rfl | rfl
      · exact q1
      · exact q2
      · exact r3
    exact Blk.drew (Blk.alloc h3 o)
  refine ⟨⟨?_, hz a ha.1 ha.2 _, hz b hb.1 hb.2 _, hz c hc.1 hc.2 _, ⟨by simp, by unfold maxLen; dsimp only; omega⟩, ⟨by dsimp only; omega, by dsimp only; omega, by dsimp only; omega, by dsimp only; omega⟩, hn⟩, ?_, fun k hk => ?_⟩
  · rw [← s3]
    exact (Blk.new w3 87 _).drew
  · exact (((b1.trans (b2.mono (by omega))).trans (b3.mono (by omega))).alloc (by omega) _).drew
  · rcases hk with rfl | rfl | rfl | rfl
    · exact Nat.le_add_right _ _
    · exact ha.1
    · exact hb.1
    · exact hc.1
set_option maxRecDepth 100000 in
set_option maxHeartbeats 1000000 in
theorem bookNew_any (base nb : Nat) (most ticks : Int) (w : World) (hnb : nb ≤ 8) (hB : base ≤ w.heap.size) :
    Calls Try.prog 18 #[.int .i64 nb, .int .i64 most, .int .i64 ticks] w fun e w' => ∃ p : BkL, e = .returned (.pointer (some ⟨p.g, 0, none⟩)) ∧ BkAt w' base nb p most ticks (BkS.new nb) ∧ Below w.heap.size w w' ∧ ∀ k, p.has k → w.heap.size ≤ k := by
  obtain ⟨i0, hi, hz0, hz1, hz2⟩ := int_info
  have hmk := fun W => run_make_rowN (P := Try.prog) 43 3 i0 _ Try.underlying43 hi hz0 .i64 .i64 nb nb (Nat.le_refl _) (by rw [hz2]; omega) (by omega) W
  rw [hz1] at hmk
  go_enter Try.func18, Try.ntmps18
  go_wp2_with fail
  go_region
  all_goals
    go_wp2_with fail
    go_ret
    first
      | exact ⟨_, rfl, bk_new base nb most ticks w hnb hB w.heap.size (w.heap.size + 1) (w.heap.size + 2) (by omega) (by omega) (by omega) (by omega) _ rfl⟩
      | exact ⟨_, rfl, bk_new base nb most ticks w hnb hB w.heap.size (w.heap.size + 2) (w.heap.size + 1) (by omega) (by omega) (by omega) (by omega) _ rfl⟩
      | exact ⟨_, rfl, bk_new base nb most ticks w hnb hB (w.heap.size + 1) w.heap.size (w.heap.size + 2) (by omega) (by omega) (by omega) (by omega) _ rfl⟩
      | exact ⟨_, rfl, bk_new base nb most ticks w hnb hB (w.heap.size + 1) (w.heap.size + 2) w.heap.size (by omega) (by omega) (by omega) (by omega) _ rfl⟩
      | exact ⟨_, rfl, bk_new base nb most ticks w hnb hB (w.heap.size + 2) w.heap.size (w.heap.size + 1) (by omega) (by omega) (by omega) (by omega) _ rfl⟩
      | exact ⟨_, rfl, bk_new base nb most ticks w hnb hB (w.heap.size + 2) (w.heap.size + 1) w.heap.size (by omega) (by omega) (by omega) (by omega) _ rfl⟩
end Go.Proofs.Ytiljallignlbgaa
