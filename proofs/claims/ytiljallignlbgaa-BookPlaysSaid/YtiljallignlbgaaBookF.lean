/- The reference's Broker: how it lies in memory; NewBroker. Conditions: none beyond what each theorem states. -/
import Derived.Test.YtiljallignlbgaaBookC
namespace Go.Proofs.Ytiljallignlbgaa
open Go.RowKit
set_option linter.unusedVariables false

structure BrL where
  g : Nat
  gw : Nat
  gg : Nat
  gs : Nat
  gq : Nat
  cq : Nat
  T : List Value
def BrL.has (p : BrL) (k : Nat) : Prop := k = p.g ∨ k = p.gw ∨ k = p.gg ∨ k = p.gs ∨ k = p.gq
structure BrAt (w : World) (base nb : Nat) (p : BrL) (most ticks : Int) (s : BrS) : Prop where
  blk : Blk w p.g 73 #[.int .i64 nb, .int .i64 most, .int .i64 ticks, .int .i64 s.rounds, .int .i64 s.reserve, .int .i64 s.ever, .slice (some ⟨p.gw, 0, none⟩) nb nb, .slice (some ⟨p.gg, 0, none⟩) nb nb, .slice (some ⟨p.gs, 0, none⟩) nb nb, .slice (some ⟨p.gq, 0, none⟩) nb p.cq]
  rw_ : IRow w p.gw s.wants []
  rg : IRow w p.gg s.given []
  rs : IRow w p.gs s.since []
  rq : IRow w p.gq s.quotas p.T
  cap : nb + p.T.length = p.cq ∧ p.cq ≤ maxLen
  low : base ≤ p.g ∧ base ≤ p.gw ∧ base ≤ p.gg ∧ base ≤ p.gs ∧ base ≤ p.gq
  ne : p.gw ≠ p.gg ∧ p.gw ≠ p.gs ∧ p.gw ≠ p.gq ∧ p.gg ≠ p.gs ∧ p.gg ≠ p.gq ∧ p.gs ≠ p.gq
section
variable {w w' : World} {base nb : Nat} {p : BrL} {most ticks : Int} {s : BrS}
theorem BrAt.ng (h : BrAt w base nb p most ticks s) : p.g ≠ p.gw ∧ p.g ≠ p.gg ∧ p.g ≠ p.gs ∧ p.g ≠ p.gq :=
  ⟨Blk.ne_ h.blk h.rw_ (by decide), Blk.ne_ h.blk h.rg (by decide), Blk.ne_ h.blk h.rs (by decide), Blk.ne_ h.blk h.rq (by decide)⟩
theorem BrAt.lt (h : BrAt w base nb p most ticks s) (k : Nat) (hk : p.has k) : k < w.heap.size := by
  rcases hk with rfl | rfl | rfl | rfl | rfl
  · exact h.blk.lt
  · exact Blk.lt h.rw_
  · exact Blk.lt h.rg
  · exact Blk.lt h.rs
  · exact Blk.lt h.rq
theorem BrAt.only {D : Nat → Prop} (h : BrAt w base nb p most ticks s) (ho : Only D w w') (hn : ∀ k, p.has k → ¬ D k) : BrAt w' base nb p most ticks s :=
  ⟨h.blk.only ho (hn _ (.inl rfl)), Blk.only h.rw_ ho (hn _ (.inr (.inl rfl))), Blk.only h.rg ho (hn _ (.inr (.inr (.inl rfl)))), Blk.only h.rs ho (hn _ (.inr (.inr (.inr (.inl rfl))))), Blk.only h.rq ho (hn _ (.inr (.inr (.inr (.inr rfl))))), h.cap, h.low, h.ne⟩
theorem BrAt.calm (h : BrAt w base nb p most ticks s) (hb : Below w.heap.size w w') : BrAt w' base nb p most ticks s :=
  h.only (D := fun _ => False) (Only.of_below hb (fun x h1 h2 => by omega)) (fun _ _ e => e)
end
theorem br_new (base nb : Nat) (most ticks : Int) (w : World) (hnb : nb ≤ 8) (hB : base ≤ w.heap.size) (a b c d : Nat) (ha : w.heap.size ≤ a ∧ a ≤ w.heap.size + 3) (hb : w.heap.size ≤ b ∧ b ≤ w.heap.size + 3) (hc : w.heap.size ≤ c ∧ c ≤ w.heap.size + 3) (hd : w.heap.size ≤ d ∧ d ≤ w.heap.size + 3) (hn : a ≠ b ∧ a ≠ c ∧ a ≠ d ∧ b ≠ c ∧ b ≠ d ∧ c ≠ d) (W : World)
    (hW : W = (((((w.alloc (.cells (madeCells #[Value.int .i64 0] nb) 3)).alloc (.cells (madeCells #[Value.int .i64 0] nb) 3)).alloc (.cells (madeCells #[Value.int .i64 0] nb) 3)).alloc (.cells (madeCells #[Value.int .i64 0] nb) 3)).alloc (.cells #[.int .i64 nb, .int .i64 most, .int .i64 ticks, .int .i64 0, .int .i64 0, .int .i64 0, .slice (some ⟨a, 0, none⟩) nb nb, .slice (some ⟨b, 0, none⟩) nb nb, .slice (some ⟨c, 0, none⟩) nb nb, .slice (some ⟨d, 0, none⟩) nb nb] 73)).drew) :
    BrAt W base nb ⟨w.heap.size + 4, a, b, c, d, nb, []⟩ most ticks (BrS.new nb) ∧ Below w.heap.size w W ∧ ∀ k, BrL.has ⟨w.heap.size + 4, a, b, c, d, nb, []⟩ k → w.heap.size ≤ k := by
  subst hW
  obtain ⟨w1, hw1⟩ : ∃ w1, w1 = w.alloc (.cells (madeCells #[Value.int .i64 0] nb) 3) := ⟨_, rfl⟩
  obtain ⟨w2, hw2⟩ : ∃ w2, w2 = w1.alloc (.cells (madeCells #[Value.int .i64 0] nb) 3) := ⟨_, rfl⟩
  obtain ⟨w3, hw3⟩ : ∃ w3, w3 = w2.alloc (.cells (madeCells #[Value.int .i64 0] nb) 3) := ⟨_, rfl⟩
  obtain ⟨w4, hw4⟩ : ∃ w4, w4 = w3.alloc (.cells (madeCells #[Value.int .i64 0] nb) 3) := ⟨_, rfl⟩
  rw [← hw1, ← hw2, ← hw3, ← hw4]
  have s1 : w1.heap.size = w.heap.size + 1 := by rw [hw1]; simp
  have s2 : w2.heap.size = w.heap.size + 2 := by rw [hw2]; simp [s1]
  have s3 : w3.heap.size = w.heap.size + 3 := by rw [hw3]; simp [s2]
  have s4 : w4.heap.size = w.heap.size + 4 := by rw [hw4]; simp [s3]
  have r1 : IRow w1 w.heap.size (List.replicate nb 0) [] := by rw [hw1]; exact bk_made w nb
  have r2 : IRow w2 (w.heap.size + 1) (List.replicate nb 0) [] := by rw [hw2, ← s1]; exact bk_made w1 nb
  have r3 : IRow w3 (w.heap.size + 2) (List.replicate nb 0) [] := by rw [hw3, ← s2]; exact bk_made w2 nb
  have r4 : IRow w4 (w.heap.size + 3) (List.replicate nb 0) [] := by rw [hw4, ← s3]; exact bk_made w3 nb
  have b1 : Below w.heap.size w w1 := by rw [hw1]; exact (Below.refl _ _).alloc (Nat.le_refl _) _
  have b2 : Below w1.heap.size w1 w2 := by rw [hw2]; exact (Below.refl _ _).alloc (Nat.le_refl _) _
  have b3 : Below w2.heap.size w2 w3 := by rw [hw3]; exact (Below.refl _ _).alloc (Nat.le_refl _) _
  have b4 : Below w3.heap.size w3 w4 := by rw [hw4]; exact (Below.refl _ _).alloc (Nat.le_refl _) _
  have q1 : IRow w4 w.heap.size (List.replicate nb 0) [] := Blk.below (Blk.below (Blk.below r1 b2 (Blk.lt r1)) b3 (by omega)) b4 (by omega)
  have q2 : IRow w4 (w.heap.size + 1) (List.replicate nb 0) [] := Blk.below (Blk.below r2 b3 (by omega)) b4 (by omega)
  have q3 : IRow w4 (w.heap.size + 2) (List.replicate nb 0) [] := Blk.below r3 b4 (by omega)
  have hz : ∀ k, w.heap.size ≤ k → k ≤ w.heap.size + 3 → ∀ o, IRow ((w4.alloc o).drew) k (List.replicate nb 0) [] := fun k h1 h2 o => by
    have h3 : IRow w4 k (List.replicate nb 0) [] := by
      rcases (show k = w.heap.size ∨ k = w.heap.size + 1 ∨ k = w.heap.size + 2 ∨ k = w.heap.size + 3 by omega) with rfl | rfl | rfl | rfl
      · exact q1
      · exact q2
      · exact q3
      · exact r4
    exact Blk.drew (Blk.alloc h3 o)
  refine ⟨⟨?_, hz a ha.1 ha.2 _, hz b hb.1 hb.2 _, hz c hc.1 hc.2 _, hz d hd.1 hd.2 _, ⟨by simp, by unfold maxLen; dsimp only; omega⟩, ⟨by dsimp only; omega, by dsimp only; omega, by dsimp only; omega, by dsimp only; omega, by dsimp only; omega⟩, hn⟩, ?_, fun k hk => ?_⟩
  · rw [← s4]
    exact (Blk.new w4 73 _).drew
  · exact ((((b1.trans (b2.mono (by omega))).trans (b3.mono (by omega))).trans (b4.mono (by omega))).alloc (by omega) _).drew
  · rcases hk with rfl | rfl | rfl | rfl | rfl
    · exact Nat.le_add_right _ _
    · exact ha.1
    · exact hb.1
    · exact hc.1
    · exact hd.1
set_option maxRecDepth 100000 in
set_option maxHeartbeats 4000000 in
theorem brokerNew_any (base nb : Nat) (most ticks : Int) (w : World) (hnb : nb ≤ 8) (hB : base ≤ w.heap.size) :
    Calls Try.prog 20 #[.int .i64 nb, .int .i64 most, .int .i64 ticks] w fun e w' => ∃ p : BrL, e = .returned (.pointer (some ⟨p.g, 0, none⟩)) ∧ BrAt w' base nb p most ticks (BrS.new nb) ∧ Below w.heap.size w w' ∧ ∀ k, p.has k → w.heap.size ≤ k := by
  obtain ⟨i0, hi, hz0, hz1, hz2⟩ := int_info
  have hmk := fun W => run_make_rowN (P := Try.prog) 43 3 i0 _ Try.underlying43 hi hz0 .i64 .i64 nb nb (Nat.le_refl _) (by rw [hz2]; omega) (by omega) W
  rw [hz1] at hmk
  go_enter Try.func20, Try.ntmps20
  go_wp2_with fail
  go_region
  all_goals
    go_wp2_with fail
    go_ret
    refine ⟨_, rfl, br_new base nb most ticks w hnb hB _ _ _ _ ?_ ?_ ?_ ?_ ?_ _ rfl⟩ <;> omega
end Go.Proofs.Ytiljallignlbgaa
