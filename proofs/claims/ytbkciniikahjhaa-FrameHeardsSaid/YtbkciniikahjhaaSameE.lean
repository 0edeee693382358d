/- Contract of sameEntries on two rows that read alike. Conditions: none beyond what the theorem states. -/
import Derived.Test.YtbkciniikahjhaaRegA
namespace Go.Proofs.Ytbkciniikahjhaa
open Go.RowKit
set_option linter.unusedVariables false

theorem sameEntries_any (A A' : Option Addr) (n c c' : Nat) (l : List Ent) (B : Nat) (w : World) (hl : l.length = n) (hm : n ≤ 9223372036854775807) (hr : Reads w B 5 A n (l.flatMap entCells)) (hr' : Reads w B 5 A' n (l.flatMap entCells)) :
    Calls Try.prog 48 #[.slice A n c, .slice A' n c'] w fun e w' => e = .returned (.bool true) ∧ ∃ nq, w.drewN nq = w' := by
  have HR := hide hr
  have HR' := hide hr'
  clear hr hr'
  have HL := hide hl
  clear hl
  go_enter Try.func48, Try.ntmps48
  go_wp2_with fail
  go_loopw [5] (fun i wr => ∃ k nq : Nat, k ≤ n ∧ i = .int .i64 k ∧ wr = w.drewN nq) (fun i _ => n - (intOf i).toNat)
  case atStart => exact ⟨0, 0, Nat.zero_le _, rfl, rfl⟩
  case round =>
    obtain ⟨k, nq, hk, rfl, rfl⟩ := hrel
    by_cases hlt : k < n
    · obtain ⟨b, o, e, rfl, hbl, he, hc⟩ := at_row entCells_len (by omega) (unhide HR) hlt (unhide HL)
      obtain ⟨b', o', e', rfl, hbl', he', hc'⟩ := at_row entCells_len (by omega) (unhide HR') hlt (unhide HL)
      obtain rfl : e = e' := by rw [he] at he'; injection he'
      have c0 : w.cell? ⟨b, o + k * 5, none⟩ = some (.int .i64 e.key) := hc 0 _ rfl
      have c1 : w.cell? ⟨b, o + k * 5 + 1, none⟩ = some (.int .i64 e.value) := hc 1 _ rfl
      have c2 : w.cell? ⟨b, o + k * 5 + 2, none⟩ = some (.int .i64 e.time) := hc 2 _ rfl
      have c3 : w.cell? ⟨b, o + k * 5 + 3, none⟩ = some (.int .i64 e.who) := hc 3 _ rfl
      have c4 : w.cell? ⟨b, o + k * 5 + 4, none⟩ = some (.bool e.gone) := hc 4 _ rfl
      have d0 : w.cell? ⟨b', o' + k * 5, none⟩ = some (.int .i64 e.key) := hc' 0 _ rfl
      have d1 : w.cell? ⟨b', o' + k * 5 + 1, none⟩ = some (.int .i64 e.value) := hc' 1 _ rfl
      have d2 : w.cell? ⟨b', o' + k * 5 + 2, none⟩ = some (.int .i64 e.time) := hc' 2 _ rfl
      have d3 : w.cell? ⟨b', o' + k * 5 + 3, none⟩ = some (.int .i64 e.who) := hc' 3 _ rfl
      have d4 : w.cell? ⟨b', o' + k * 5 + 4, none⟩ = some (.bool e.gone) := hc' 4 _ rfl
      have hkn : (k : Int) < (n : Int) := by omega
      clear he he' hbl hbl' hc hc'
      go_wp2_with fail
      go_quiet (fail)
      go_wp2_with fail
      go_roundw
      case rel => exact ⟨k + 1, _, by omega, by go_num, rfl⟩
      case measure => simp [intOf]; omega
    · obtain rfl : k = n := by omega
      go_wp2_with fail
      go_ret
      exact ⟨rfl, nq, rfl⟩
end Go.Proofs.Ytbkciniikahjhaa
