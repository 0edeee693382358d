/- Contract of slices.Clone over api.Envelope: a row of the call's own that reads alike. Conditions: none beyond what the theorem states. -/
import Derived.Test.YtbkciniikahjhaaProg
import Derived.Test.YtbkciniikahjhaaKit
import Derived.Test.YtbkciniikahjhaaMem
import Derived.Lib.SliceRun
namespace Go.Proofs.Ytbkciniikahjhaa
open Go.RowKit
set_option linter.unusedVariables false

theorem cloneE_info0 : (Try.prog.info? 80).map (fun i => (i.zero, i.size, i.bytes)) = some (some (.agg #[.int .i64 0, .int .i64 0, .int .i64 0, .int .i64 0]), 4, 32) := by kernel_rfl
theorem cloneE_info : ∃ i, Try.prog.info? 80 = some i ∧ i.zero = some (.agg #[.int .i64 0, .int .i64 0, .int .i64 0, .int .i64 0]) ∧ i.size = 4 ∧ i.bytes = 32 := by
  have h := cloneE_info0
  cases hi : Try.prog.info? 80 with
  | none => rw [hi] at h; simp at h
  | some i => rw [hi] at h; simp at h; exact ⟨i, rfl, h.1, h.2.1, h.2.2⟩
theorem cloneE_any (A : Option Addr) (n c : Nat) (xs : List Value) (B : Nat) (w : World) (hone : ∀ u ∈ xs, u.oneCell' = true) (hm : n * 32 ≤ 140737488355328) (hr : Reads w B 4 A n xs) (hB : B ≤ w.heap.size) :
    Calls Try.prog 49 #[.slice A n c] w fun e w' => ∃ v, e = .returned v ∧ w'.ownsRow w.heap.size 80 4 v n xs ∧ Below w.heap.size w w' := by
  obtain ⟨i0, hi, hz0, hz1, hz2⟩ := cloneE_info
  have q22 : ∀ (w : World) (a : Option Addr) (n c n' c' : Nat), (binOp .eql 75 (.slice a n c) (.slice none n' c')).run Try.prog w = .ok (.bool a.isNone) w := fun w a n c n' c' => Lib.run_eql_slice_nil w _ _ a n c n' c' Try.underlying75
  have HR := hide (hr.more hB)
  clear hr
  cases A with
  | none =>
    obtain rfl : n = 0 := by
      rcases Nat.eq_zero_or_pos n with h | h
      · exact h
      · obtain ⟨a, ha, _⟩ := (unhide HR).2 h; cases ha
    obtain rfl : xs = [] := List.eq_nil_of_length_eq_zero (by have := (unhide HR).1; omega)
    go_enter Try.func49, Try.ntmps49
    go_wp2_with fail
    go_ret
    exact ⟨_, rfl, World.ownsRow_nil _ _ _ _, Below.refl _ _⟩
  | some a =>
    have hlit := World.ownsRow_lit (base := w.heap.size) (size := 4) (e := 80) w #[] 0 (Nat.le_refl _) (by unfold maxLen; omega) rfl
    have HLIT := hide hlit
    have HR1 := hide ((unhide HR).alloc (Nat.le_refl _) (.cells #[] 80))
    have h1 : 0 + n ≤ maxLen := by unfold maxLen; omega
    have h2 : (0 + n) * 32 ≤ 140737488355328 := by omega
    have HONE := hide hone
    clear hlit hB hm hone
    go_enter Try.func49, Try.ntmps49
    go_wp2_with (first
      | (at_builtin; (refine wpList_append_any _ rfl (.tmp 5) (.tmp 6) _ rfl w.heap.size 80 i0 _ 4 32 Try.underlying75 hi hz0 hz1 hz2 rfl (by omega) _ 0 _ rfl (unhide HLIT) w.heap.size (some a) n c xs rfl (unhide HR1) (unhide HONE) h1 h2 (by simp) ?_); intro v w1 hown hg hv))
    go_ret
    exact ⟨v, rfl, by simpa using hown, ((Below.refl _ w).alloc (Nat.le_refl _) _).grown hg (by simp) fun k hk => ((unhide HLIT).lt k hk).1⟩
end Go.Proofs.Ytbkciniikahjhaa
