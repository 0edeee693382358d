/- Contract of slices.Clone over uint8: a row of the call's own that reads alike. Conditions: none beyond what the theorem states. -/
import Derived.Test.YtiljallignlbgaaProg
import Derived.Test.YtiljallignlbgaaKit
import Derived.Test.YtiljallignlbgaaMem
import Derived.Lib.SliceRun
namespace Go.Proofs.Ytiljallignlbgaa
open Go.RowKit
set_option linter.unusedVariables false

theorem cloneB_info0 : (Try.prog.info? 5).map (fun i => (i.zero, i.size, i.bytes)) = some (some (.int .u8 0), 1, 1) := by kernel_rfl
theorem cloneB_info : ∃ i, Try.prog.info? 5 = some i ∧ i.zero = some (.int .u8 0) ∧ i.size = 1 ∧ i.bytes = 1 := by
  have h := cloneB_info0
  cases hi : Try.prog.info? 5 with
  | none => rw [hi] at h; simp at h
  | some i => rw [hi] at h; simp at h; exact ⟨i, rfl, h.1, h.2.1, h.2.2⟩
theorem cloneB_any (A : Option Addr) (n c : Nat) (xs : List Value) (B : Nat) (w : World) (hone : ∀ u ∈ xs, u.oneCell' = true) (hm : n * 1 ≤ 140737488355328) (hr : Reads w B 1 A n xs) (hB : B ≤ w.heap.size) :
    Calls Try.prog 41 #[.slice A n c] w fun e w' => ∃ v, e = .returned v ∧ w'.ownsRow w.heap.size 5 1 v n xs ∧ Below w.heap.size w w' := by
  obtain ⟨i0, hi, hz0, hz1, hz2⟩ := cloneB_info
  have q22 : ∀ (w : World) (a : Option Addr) (n c n' c' : Nat), (binOp .eql 34 (.slice a n c) (.slice none n' c')).run Try.prog w = .ok (.bool a.isNone) w := fun w a n c n' c' => Lib.run_eql_slice_nil w _ _ a n c n' c' Try.underlying34
  have HR := hide (hr.more hB)
  clear hr
  cases A with
  | none =>
    obtain rfl : n = 0 := by
      rcases Nat.eq_zero_or_pos n with h | h
      · exact h
      · obtain ⟨a, ha, _⟩ := (unhide HR).2 h; cases ha
    obtain rfl : xs = [] := List.eq_nil_of_length_eq_zero (by have := (unhide HR).1; omega)
    go_enter Try.func41, Try.ntmps41
    go_wp2_with fail
    go_ret
    exact ⟨_, rfl, World.ownsRow_nil _ _ _ _, Below.refl _ _⟩
  | some a =>
    have hlit := World.ownsRow_lit (base := w.heap.size) (size := 1) (e := 5) w #[] 0 (Nat.le_refl _) (by unfold maxLen; omega) rfl
    have HLIT := hide hlit
    have HR1 := hide ((unhide HR).alloc (Nat.le_refl _) (.cells #[] 5))
    have h1 : 0 + n ≤ maxLen := by unfold maxLen; omega
    have h2 : (0 + n) * 1 ≤ 140737488355328 := by omega
    have HONE := hide hone
    clear hlit hB hm hone
    go_enter Try.func41, Try.ntmps41
    go_wp2_with (first
      | (at_builtin; (refine wpList_append_any _ rfl (.tmp 5) (.tmp 6) _ rfl w.heap.size 5 i0 _ 1 1 Try.underlying34 hi hz0 hz1 hz2 rfl (by omega) _ 0 _ rfl (unhide HLIT) w.heap.size (some a) n c xs rfl (unhide HR1) (unhide HONE) h1 h2 (by simp) ?_); intro v w1 hown hg hv))
    go_ret
    exact ⟨v, rfl, by simpa using hown, ((Below.refl _ w).alloc (Nat.le_refl _) _).grown hg (by simp) fun k hk => ((unhide HLIT).lt k hk).1⟩
end Go.Proofs.Ytiljallignlbgaa
