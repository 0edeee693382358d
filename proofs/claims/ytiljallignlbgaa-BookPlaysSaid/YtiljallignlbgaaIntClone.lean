/- Contract of slices.Clone over numbers. Conditions: none beyond what the theorem states. -/
import Derived.Test.YtiljallignlbgaaIntRow
import Derived.Lib.SliceRun
namespace Go.Proofs.Ytiljallignlbgaa
open Go.RowKit
set_option linter.unusedVariables false

theorem intClone_any (A : Option Addr) (n c : Nat) (l : List Int) (B : Nat) (w : World) (hl : l.length = n) (hm : n * 8 ≤ 140737488355328) (hr : Reads w B 1 A n (l.map (.int .i64))) (hB : B ≤ w.heap.size) :
    Calls Try.prog 44 #[.slice A n c] w fun e w' => ∃ v, e = .returned v ∧ w'.ownsRow w.heap.size 3 1 v n (l.map (.int .i64)) ∧ Below w.heap.size w w' := by
  obtain ⟨i0, hi, hz0, hz1, hz2⟩ := int_info
  have q22 : ∀ (w : World) (a : Option Addr) (n c n' c' : Nat), (binOp .eql 43 (.slice a n c) (.slice none n' c')).run Try.prog w = .ok (.bool a.isNone) w := fun w a n c n' c' => Lib.run_eql_slice_nil w _ _ a n c n' c' Try.underlying43
  have HR := hide (hr.more hB)
  have HL := hide hl
  clear hr hl
  cases A with
  | none =>
    obtain rfl : n = 0 := by
      rcases Nat.eq_zero_or_pos n with h | h
      · exact h
      · obtain ⟨a, ha, _⟩ := (unhide HR).2 h; cases ha
    obtain rfl : l = [] := List.eq_nil_of_length_eq_zero (unhide HL)
    go_enter Try.func44, Try.ntmps44
    go_wp2_with fail
    go_ret
    exact ⟨_, rfl, World.ownsRow_nil _ _ _ _, Below.refl _ _⟩
  | some a =>
    have hlit := World.ownsRow_lit (base := w.heap.size) (size := 1) (e := 3) w #[] 0 (Nat.le_refl _) (by unfold maxLen; omega) rfl
    have HLIT := hide hlit
    have HR1 := hide ((unhide HR).alloc (Nat.le_refl _) (.cells #[] 3))
    have h1 : 0 + n ≤ maxLen := by unfold maxLen; omega
    have h2 : (0 + n) * 8 ≤ 140737488355328 := by omega
    have HONE := hide (ints_one .i64 l)
    clear hlit hB hm
    go_enter Try.func44, Try.ntmps44
    go_wp2_with (first
      | (at_builtin; (refine wpList_append_any _ rfl (.tmp 5) (.tmp 6) _ rfl w.heap.size 3 i0 _ 1 8 Try.underlying43 hi hz0 hz1 hz2 rfl (by omega) _ 0 _ rfl (unhide HLIT) w.heap.size (some a) n c (l.map (.int .i64)) rfl (unhide HR1) (unhide HONE) h1 h2 (by simp) ?_); intro v w1 hown hg hv))
    go_ret
    exact ⟨v, rfl, by simpa using hown, ((Below.refl _ w).alloc (Nat.le_refl _) _).grown hg (by simp) fun k hk => ((unhide HLIT).lt k hk).1⟩
end Go.Proofs.Ytiljallignlbgaa
