/- Contract of sameTable on two tables that read alike. Conditions: none beyond what the theorem states. -/
import Derived.Test.YtickpflebmecpaaTab
import Derived.Test.YtickpflebmecpaaIntRow
import Derived.BigQuiet
namespace Go.Proofs.Ytickpflebmecpaa
open Go.RowKit
set_option linter.unusedVariables false

theorem sameTable_any (A A' : Option Addr) (n c c' : Nat) (rs rs' : List IRw) (B : Nat) (w : World) (hm : n ≤ 9223372036854775807) (hr : Tab w B A n rs) (hr' : Tab w B A' n rs') (hs : rs.map (·.zs) = rs'.map (·.zs)) :
    Calls Try.prog 16 #[.slice A n c, .slice A' n c'] w fun e w' => e = .returned (.bool true) ∧ ∃ nq, w.drewN nq = w' := by
  have HR := hide hr
  have HR' := hide hr'
  have HS := hide hs
  clear hr hr' hs
  go_enter Try.func16, Try.ntmps16
  go_wp2_with fail
  go_loopw [5] (fun i wr => ∃ k nq : Nat, k ≤ n ∧ i = .int .i64 k ∧ wr = w.drewN nq) (fun i _ => n - (intOf i).toNat)
  case atStart => exact ⟨0, 0, Nat.zero_le _, rfl, rfl⟩
  case round =>
    obtain ⟨k, nq, hk, rfl, rfl⟩ := hrel
    by_cases hlt : k < n
    · obtain ⟨b, o, r, rfl, hb, hz, hc, hok⟩ := at_tab (unhide HR) hlt
      obtain ⟨b', o', r', rfl, hb', hz', hc', hok'⟩ := at_tab (unhide HR') hlt
      have hzz : r.zs = r'.zs := by
        have h := congrArg (fun l => l[k]?) (unhide HS)
        simp only [List.getElem?_map, hz, hz', Option.map_some] at h
        injection h
      have hkn : (k : Int) < (n : Int) := by omega
      obtain ⟨rA, rn, rc, zs⟩ := r
      obtain ⟨rA', rn', rc', zs'⟩ := r'
      obtain ⟨h1, h2, h3, h4⟩ := hok
      obtain ⟨h1', h2', h3', h4'⟩ := hok'
      dsimp only at hzz h1 h2 h3 h4 h1' h2' h3' h4' hc hc'
      subst hzz
      obtain rfl : rn = rn' := by omega
      have HC := hide (fun q => sameInts_row rA rA' rn rc rc' zs B (w.drewN q) h1 (by unfold maxLen at h3; omega) (h4.drewN q) (h4'.drewN q))
      clear hz hz' hb hb' h1 h1' h4 h4'
      have HC2 := hide (fun a q => quiet_add (w := w) (a := a) (n := q) ((unhide HC (a + q)).mono fun e w' ⟨he, m, hm⟩ => ⟨he, m, hm.symm⟩))
      go_wp2_with fail
      go_quiet ((go_at_call 13; exact unhide HC2 _ _))
      go_wp2_with fail
      go_roundw
      case rel => exact ⟨k + 1, _, by omega, by go_num, rfl⟩
      case measure => simp [intOf]; omega
    · obtain rfl : k = n := by omega
      go_wp2_with fail
      go_ret
      exact ⟨rfl, nq, rfl⟩
end Go.Proofs.Ytickpflebmecpaa
