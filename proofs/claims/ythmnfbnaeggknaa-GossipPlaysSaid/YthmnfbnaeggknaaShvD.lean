/- The reference's gossipTurn: all else. Conditions: none beyond what each theorem states. -/
import Derived.Test.YthmnfbnaeggknaaShvC
namespace Go.Proofs.Ythmnfbnaeggknaa
open Go.RowKit
set_option linter.unusedVariables false

theorem rturn_same {base sb hb ib n c m hc ic : Nat} {A : Option Addr} {X Y : List Nat} {w w' : World} {Q : List (List Slot)} {x : Int} {r : Int × List (List Slot)} (h : ShvAt w base sb hb ib n c m hc ic A X Y Q) (ho : Below w.heap.size w w') (e : r = (x, Q)) :
    RTurnPost base sb hb ib n c m hc ic A X Y w r (.returned (.int .i64 x)) w' := by
  subst e
  exact ⟨rfl, h.calm ho, Only.of_below ho (fun x h1 h2 => by omega)⟩
set_option maxRecDepth 100000 in
set_option maxHeartbeats 4000000 in
theorem refTurn_early (base sb hb ib n c m hc ic : Nat) (A : Option Addr) (X Y : List Nat) (Q : List (List Slot)) (labs : List Nat) (w : World) (t : TurnI) (h : ShvAt w base sb hb ib n c m hc ic A X Y Q) (hla : LabsAt w base n A labs) (hE : ¬ (¬ (t.kind < 1 ∨ 3 < t.kind) ∧ (0 ≤ t.who ∧ t.who < m) ∧ (t.kind = 3 → 0 ≤ t.dst ∧ t.dst < m) ∧ ¬ (t.kind ≠ 3 ∧ (t.label < 0 ∨ (labs.length : Int) ≤ t.label ∨ t.key < 0 ∨ 8 ≤ t.key ∨ (t.kind = 1 ∧ (t.value < 0 ∨ 255 < t.value)))))) :
    Calls Try.prog 36 #[.pointer (some ⟨sb, 0, none⟩), .int .i64 m, .agg (turnC t)] w (RTurnPost base sb hb ib n c m hc ic A X Y w (turnQ m labs t Q)) := by
  obtain ⟨kind, who, dst, label, key, value⟩ := t
  dsimp only at hE
  obtain ⟨w1, hw1⟩ : ∃ w1, w1 = w.alloc (.cells #[.int .i64 kind, .int .i64 who, .int .i64 dst, .int .i64 label, .int .i64 key, .int .i64 value] 60) := ⟨_, rfl⟩
  have hb1 : Below w.heap.size w w1 := by rw [hw1]; exact (Below.refl _ _).alloc (Nat.le_refl _) _
  obtain ⟨p, hp⟩ : ∃ p, p = w.heap.size := ⟨_, rfl⟩
  have kt : Blk w1 p 60 #[.int .i64 kind, .int .i64 who, .int .i64 dst, .int .i64 label, .int .i64 key, .int .i64 value] := by rw [hw1, hp]; exact Blk.new w 60 _
  have t0 : w1.cell? ⟨p, 0, none⟩ = some (.int .i64 kind) := kt.cell 0
  have t1 : w1.cell? ⟨p, 1, none⟩ = some (.int .i64 who) := kt.cell 1
  have t2 : w1.cell? ⟨p, 2, none⟩ = some (.int .i64 dst) := kt.cell 2
  have t3 : w1.cell? ⟨p, 3, none⟩ = some (.int .i64 label) := kt.cell 3
  have t4 : w1.cell? ⟨p, 4, none⟩ = some (.int .i64 key) := kt.cell 4
  have t5 : w1.cell? ⟨p, 5, none⟩ = some (.int .i64 value) := kt.cell 5
  have y0 := (h.calm hb1).c0
  have hn8 := h.n8
  have hm60 := h.m8
  have HLN := hide hla.ln
  have HB := hide hb1
  have HW1 := hide hw1
  have HP := hide hp
  have HH := hide h
  clear h kt hb1 hw1 hp hla
  unfold turnC
  dsimp only
  go_enter Try.func36, Try.ntmps36
  go_upto_region 1 with fail
  rw [← unhide HW1, ← unhide HP]
  by_cases c1 : kind < 1
  · go_wp2_with fail
    go_ret
    exact rturn_same (unhide HH) (unhide HB) (by unfold turnQ; rw [if_pos (Or.inl c1)])
  by_cases c2 : 3 < kind
  · go_wp2_with fail
    go_ret
    exact rturn_same (unhide HH) (unhide HB) (by unfold turnQ; rw [if_pos (Or.inr c2)])
  have c12 : ¬ (kind < 1 ∨ 3 < kind) := by omega
  by_cases c3 : 0 ≤ who ∧ who < m
  case neg =>
    by_cases d1 : who < 0
    · go_wp2_with fail
      go_ret
      exact rturn_same (unhide HH) (unhide HB) (by unfold turnQ; rw [if_neg c12, if_pos c3])
    · have d2 : (m : Int) ≤ who := by omega
      go_wp2_with fail
      go_ret
      exact rturn_same (unhide HH) (unhide HB) (by unfold turnQ; rw [if_neg c12, if_pos c3])
  have e1 : ¬ who < 0 := by omega
  have e2 : ¬ (m : Int) ≤ who := by omega
  by_cases c4 : kind = 3
  · subst c4
    by_cases c5 : 0 ≤ dst ∧ dst < m
    case pos => exact absurd ⟨c12, c3, fun _ => c5, fun h => h.1 rfl⟩ hE
    have HFI := hide (show turnQ m labs ⟨3, who, dst, label, key, value⟩ Q = (2, Q) by unfold turnQ; rw [if_neg c12, if_neg (by simpa using c3), if_pos rfl, if_pos c5])
    by_cases d1 : dst < 0
    · go_wp2_with fail
      go_ret
      exact rturn_same (unhide HH) (unhide HB) (unhide HFI)
    · have d2 : (m : Int) ≤ dst := by omega
      go_wp2_with fail
      go_ret
      exact rturn_same (unhide HH) (unhide HB) (unhide HFI)
  by_cases c6 : label < 0 ∨ (labs.length : Int) ≤ label ∨ key < 0 ∨ 8 ≤ key ∨ (kind = 1 ∧ (value < 0 ∨ 255 < value))
  case neg => exact absurd ⟨c12, c3, fun h => absurd h c4, fun h => c6 h.2⟩ hE
  have HFI := hide (show turnQ m labs ⟨kind, who, dst, label, key, value⟩ Q = (2, Q) by unfold turnQ; rw [if_neg c12, if_neg (by simpa using c3), if_neg c4, if_pos c6])
  rw [unhide HLN] at c6
  have k3 : (kind == 3) = false := by simpa using c4
  go_upto_region 19 with fail
  by_cases d1 : label < 0
  · go_quiet (fail)
    go_wp2_with fail
    go_ret
    exact rturn_same (unhide HH) (below_drewN (unhide HB) _) (unhide HFI)
  have b1 : decide (label < 0) = false := by simpa using d1
  by_cases d2 : (n : Int) ≤ label
  · go_quiet (fail)
    go_wp2_with fail
    go_ret
    exact rturn_same (unhide HH) (below_drewN (unhide HB) _) (unhide HFI)
  have b2 : decide ((n : Int) ≤ label) = false := by simpa using d2
  by_cases d3 : key < 0
  · go_quiet (fail)
    go_wp2_with fail
    go_ret
    exact rturn_same (unhide HH) (below_drewN (unhide HB) _) (unhide HFI)
  have b3 : decide (key < 0) = false := by simpa using d3
  by_cases d4 : 7 < key
  · go_quiet (fail)
    go_wp2_with fail
    go_ret
    exact rturn_same (unhide HH) (below_drewN (unhide HB) _) (unhide HFI)
  have b4 : decide (7 < key) = false := by simpa using d4
  obtain rfl : kind = 1 := by omega
  by_cases d5 : value < 0
  · go_quiet (fail)
    go_wp2_with fail
    go_ret
    exact rturn_same (unhide HH) (below_drewN (unhide HB) _) (unhide HFI)
  have d6 : 255 < value := by omega
  go_quiet (fail)
  go_wp2_with fail
  go_ret
  exact rturn_same (unhide HH) (below_drewN (unhide HB) _) (unhide HFI)
end Go.Proofs.Ythmnfbnaeggknaa
