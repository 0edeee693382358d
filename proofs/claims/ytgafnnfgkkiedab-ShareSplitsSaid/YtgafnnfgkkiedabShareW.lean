/- The walk of the law on share.Split: it returns true, and writes nothing that was there. Conditions: none beyond what the theorem states. -/
import Derived.Test.YtgafnnfgkkiedabShareC
import Derived.Test.YtgafnnfgkkiedabWireE
namespace Go.Proofs.Ytgafnnfgkkiedab
open Go.RowKit
set_option linter.unusedVariables false

theorem gives_len (total : Int) (ws : List Int) : (splitP total ws).1.length ≤ 16 := by
  unfold splitP
  split
  · simp
  · split
    · simp only [gives, greedy_len]; omega
    · simp
theorem walk_ShareSplits (total : Int) (A : Option Addr) (n c : Nat) (ws : List Int) (w : World) (ht : (Lit.int .i64 total).wf = true) (l : n ≤ c) (m : c ≤ maxLen) (e : ws.length = n) (hr : Reads w w.heap.size 1 A n (ws.map (.int .i64))) (_hw : ∀ z ∈ ws, (Lit.int .i64 z).wf = true) :
    Calls Try.prog 6 #[.int .i64 total, .slice A n c] w fun e w' => e = .returned (.bool true) ∧ Below w.heap.size w w' := by
  have H1 := hide (split_any A n c ws total _ w e l m (wf_i64_bounds ht) hr (Nat.le_refl _))
  have H2 := hide (fun w1 (hb : Below w.heap.size w w1) => splitRef_any A n c ws total _ w1 e l m (wf_i64_bounds ht) (hr.below hb) hb.size)
  have HL := gives_len total ws
  clear e hr l m ht
  go_enter Try.func6, Try.ntmps6
  go_wp2_with fail
  refine (unhide H1).mono ?_
  rintro e w1 ⟨v1, rfl, hown1, hb1⟩
  obtain ⟨A1, c1, rfl, hc1⟩ := own_slice hown1
  have HO1 := hide hown1
  have HB1 := hide hb1
  clear hown1 hb1
  go_wp2_with fail
  refine (unhide H2 w1 (unhide HB1)).mono ?_
  rintro e w2 ⟨v2, rfl, hown2, hb2⟩
  obtain ⟨A2, c2, rfl, hc2⟩ := own_slice hown2
  have hr1 : Reads w1 w1.heap.size 1 A1 (splitP total ws).1.length ((splitP total ws).1.map (.int .i64)) := Reads.of_own (unhide HO1)
  have hr2 : Reads w2 w2.heap.size 1 A2 (splitP total ws).1.length ((splitP total ws).1.map (.int .i64)) := Reads.of_own hown2
  have HS := hide (sameInts_any A1 A2 _ c1 c2 (splitP total ws).1 _ w2 rfl (by omega) ((hr1.below hb2).more hb2.size) hr2)
  have HB2 := hide ((unhide HB1).trans (hb2.mono (unhide HB1).size))
  obtain ⟨r, hr⟩ : ∃ r, splitP total ws = r := ⟨_, rfl⟩
  rw [hr] at HS HL hc1 hc2 ⊢
  clear hr1 hr2 hown2 hb2 HO1 H1 H2
  go_wp2_with fail
  refine (unhide HS).mono ?_
  rintro e w3 ⟨rfl, nq, rfl⟩
  go_wp2_with fail
  go_ret
  exact ⟨by simp, below_drewN (unhide HB2) _⟩
end Go.Proofs.Ytgafnnfgkkiedab
