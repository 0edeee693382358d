/- The walk of the law on reg.May. Conditions: none beyond what the theorem states. -/
import Derived.Test.YthmnfbnaeggknaaRegC
namespace Go.Proofs.Ythmnfbnaeggknaa
open Go.RowKit
set_option linter.unusedVariables false

theorem walk_RegMays (A : Option Addr) (n c : Nat) (l : List Ent) (w : World) (m : n * 40 ≤ 140737488351232) (e : l.length = n) (hr : Reads w w.heap.size 5 A n (l.flatMap entCells)) :
    Calls Try.prog 3 #[.slice A n c] w fun e w' => e = .returned (.bool true) ∧ Below w.heap.size w w' := by
  have hm : n ≤ maxLen := by unfold maxLen; omega
  have H1 := hide (regMay_any A n c l _ w e hm hr (Nat.le_refl _))
  have H2 := hide (fun w1 (hb : Below w.heap.size w w1) => entriesMay_any A n c l _ w1 e hm (hr.below hb) hb.size)
  clear e hr hm m
  go_enter Try.func3, Try.ntmps3
  go_wp2_with fail
  refine (unhide H1).mono ?_
  rintro e w1 ⟨rfl, hb1⟩
  have HB1 := hide hb1
  clear hb1
  go_wp2_with fail
  refine (unhide H2 w1 (unhide HB1)).mono ?_
  rintro e w2 ⟨rfl, hb2⟩
  have HB2 := hide ((unhide HB1).trans (hb2.mono (unhide HB1).size))
  clear hb2
  go_wp2_with fail
  go_ret
  exact ⟨by simp, unhide HB2⟩
end Go.Proofs.Ythmnfbnaeggknaa
