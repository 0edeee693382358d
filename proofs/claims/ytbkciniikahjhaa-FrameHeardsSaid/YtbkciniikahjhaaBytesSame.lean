/- Contract of sameBytes on two rows that read alike. Conditions: none beyond what the theorem states. -/
import Derived.Test.YtbkciniikahjhaaProg
import Derived.Test.YtbkciniikahjhaaKit
import Derived.Test.YtbkciniikahjhaaMem
import Derived.BigQuiet
namespace Go.Proofs.Ytbkciniikahjhaa
open Go.RowKit
set_option linter.unusedVariables false

theorem sameBytes_row (A A' : Option Addr) (n c c' : Nat) (zs : List Int) (B : Nat) (w : World) (hl : zs.length = n) (hm : n ≤ 9223372036854775807) (hr : Reads w B 1 A n (zs.map (.int .u8))) (hr' : Reads w B 1 A' n (zs.map (.int .u8))) :
    Calls Try.prog 13 #[.slice A n c, .slice A' n c'] w fun e w' => e = .returned (.bool true) ∧ ∃ nq, w.drewN nq = w' := by
  have HR := hide hr
  have HR' := hide hr'
  clear hr hr'
  have HL := hide hl
  clear hl
  go_enter Try.func13, Try.ntmps13
  go_wp2_with fail
  go_loopw [5] (fun i wr => ∃ k nq : Nat, k ≤ n ∧ i = .int .i64 k ∧ wr = w.drewN nq) (fun i _ => n - (intOf i).toNat)
  case atStart => exact ⟨0, 0, Nat.zero_le _, rfl, rfl⟩
  case round =>
    obtain ⟨k, nq, hk, rfl, rfl⟩ := hrel
    by_cases hlt : k < n
    · obtain ⟨b, o, z, rfl, hb, hz, hc⟩ := at_num (unhide HR) hlt
      obtain ⟨b', o', z', rfl, hb', hz', hc'⟩ := at_num (unhide HR') hlt
      obtain rfl : z = z' := by rw [hz] at hz'; injection hz'
      have hkn : (k : Int) < (n : Int) := by omega
      clear hz hz' hb hb'
      go_wp2_with fail
      go_quiet (fail)
      go_wp2_with fail
      go_roundw
      case rel => exact ⟨k + 1, _, by omega, by go_num, rfl⟩
      case measure => simp [intOf]; omega
    · obtain rfl : k = n := by omega
      go_wp2_with fail
      go_ret
      exact ⟨rfl, nq, rfl⟩
end Go.Proofs.Ytbkciniikahjhaa
