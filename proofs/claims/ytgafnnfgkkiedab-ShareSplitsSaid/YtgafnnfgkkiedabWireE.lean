/- The walks of the laws on wire.Size and wire.Pack: each returns true, and writes nothing that was there. Conditions: none beyond what each theorem states. -/
import Derived.Test.YtgafnnfgkkiedabWireD
namespace Go.Proofs.Ytgafnnfgkkiedab
open Go.RowKit
set_option linter.unusedVariables false

theorem walk_WireSizes (A : Option Addr) (n c : Nat) (zs : List Int) (w : World) (l : n ≤ c) (m : c ≤ maxLen) (e : zs.length = n) (hr : Reads w w.heap.size 1 A n (zs.map (.int .i64))) (_hw : ∀ z ∈ zs, (Lit.int .i64 z).wf = true) :
    Calls Try.prog 3 #[.slice A n c] w fun e w' => e = .returned (.bool true) ∧ Below w.heap.size w w' := by
  unfold maxLen at m
  have H1 := hide (wireSize_any A n c zs _ w e (by omega) hr)
  have H2 := hide (wireSize_ref A n c zs _ w e (by omega) hr)
  clear e hr l m
  go_enter Try.func3, Try.ntmps3
  go_wp2_with fail
  refine (unhide H1).mono ?_
  rintro e w' ⟨rfl, rfl⟩
  go_wp2_with fail
  refine (unhide H2).mono ?_
  rintro e w' ⟨rfl, rfl⟩
  go_wp2_with fail
  go_ret
  exact ⟨by simp, Below.refl _ _⟩

theorem sameBytes_any (A A' : Option Addr) (n c c' : Nat) (zs : List Int) (B : Nat) (w : World) (hl : zs.length = n) (hm : n ≤ 9223372036854775807) (hr : Reads w B 1 A n (zs.map (.int .u8))) (hr' : Reads w B 1 A' n (zs.map (.int .u8))) :
    Calls Try.prog 11 #[.slice A n c, .slice A' n c'] w fun e w' => e = .returned (.bool true) ∧ ∃ nq, w.drewN nq = w' := by
  have HR := hide hr
  have HR' := hide hr'
  clear hr hr'
  have HL := hide hl
  clear hl
  go_enter Try.func11, Try.ntmps11
  go_wp2_with fail
  go_loopw [5] (fun i wr => ∃ k nq : Nat, k ≤ n ∧ i = .int .i64 k ∧ wr = w.drewN nq) (fun i _ => n - (intOf i).toNat)
  case atStart => exact ⟨0, 0, Nat.zero_le _, rfl, rfl⟩
  case round =>
    obtain ⟨k, nq, hk, rfl, rfl⟩ := hrel
    by_cases hlt : k < n
    · obtain ⟨b, o, z, rfl, hb, hz, hc⟩ := at_num (unhide HR) hlt
      obtain ⟨b', o', z', rfl, hb', hz', hc'⟩ := at_num (unhide HR') hlt
      obtain rfl : z = z' := by rw [hz] at hz'; injection hz'
      have hkn : (k : Int) < (n : Int) := by omega
      clear hz hz' hb hb'
      go_wp2_with fail
      go_quiet (fail)
      go_wp2_with fail
      go_roundw
      case rel => exact ⟨k + 1, _, by omega, by go_num, rfl⟩
      case measure => simp [intOf]; omega
    · obtain rfl : k = n := by omega
      go_wp2_with fail
      go_ret
      exact ⟨rfl, nq, rfl⟩
theorem sameInts_any (A A' : Option Addr) (n c c' : Nat) (zs : List Int) (B : Nat) (w : World) (hl : zs.length = n) (hm : n ≤ 9223372036854775807) (hr : Reads w B 1 A n (zs.map (.int .i64))) (hr' : Reads w B 1 A' n (zs.map (.int .i64))) :
    Calls Try.prog 14 #[.slice A n c, .slice A' n c'] w fun e w' => e = .returned (.bool true) ∧ ∃ nq, w.drewN nq = w' := by
  have HR := hide hr
  have HR' := hide hr'
  clear hr hr'
  have HL := hide hl
  clear hl
  go_enter Try.func14, Try.ntmps14
  go_wp2_with fail
  go_loopw [5] (fun i wr => ∃ k nq : Nat, k ≤ n ∧ i = .int .i64 k ∧ wr = w.drewN nq) (fun i _ => n - (intOf i).toNat)
  case atStart => exact ⟨0, 0, Nat.zero_le _, rfl, rfl⟩
  case round =>
    obtain ⟨k, nq, hk, rfl, rfl⟩ := hrel
    by_cases hlt : k < n
    · obtain ⟨b, o, z, rfl, hb, hz, hc⟩ := at_num (unhide HR) hlt
      obtain ⟨b', o', z', rfl, hb', hz', hc'⟩ := at_num (unhide HR') hlt
      obtain rfl : z = z' := by rw [hz] at hz'; injection hz'
      have hkn : (k : Int) < (n : Int) := by omega
      clear hz hz' hb hb'
      go_wp2_with fail
      go_quiet (fail)
      go_wp2_with fail
      go_roundw
      case rel => exact ⟨k + 1, _, by omega, by go_num, rfl⟩
      case measure => simp [intOf]; omega
    · obtain rfl : k = n := by omega
      go_wp2_with fail
      go_ret
      exact ⟨rfl, nq, rfl⟩

theorem walk_WirePacks (A : Option Addr) (n c : Nat) (fs : List (Int × Int)) (w : World) (m : n * 16 ≤ 140737488351232) (e : fs.length = n) (hr : Reads w w.heap.size 2 A n (fs.flatMap fldCells)) :
    Calls Try.prog 4 #[.slice A n c] w fun e w' => e = .returned (.bool true) ∧ Below w.heap.size w w' := by
  have H1 := hide (wirePack_any A n c fs w e (by omega) hr)
  have H2 := hide (fun W (hW : Below w.heap.size w W) => wirePack_ref A n c fs W e (by omega) ((hr.below hW).more hW.size))
  clear e hr m
  go_enter Try.func4, Try.ntmps4
  go_wp2_with fail
  refine (unhide H1).mono ?_
  rintro e w1 ⟨v1, rfl, ho1, hb1⟩
  obtain ⟨A1, c1, rfl, hc1⟩ := own_slice ho1
  have HB1 := hide hb1
  have HO1 := hide ho1
  clear hb1 ho1
  go_wp2_with fail
  refine (unhide H2 _ (unhide HB1)).mono ?_
  rintro e w2 ⟨v2, rfl, ho2, hb2⟩
  obtain ⟨A2, c2, rfl, hc2⟩ := own_slice ho2
  have hr1 := ((Reads.of_own (unhide HO1)).below hb2).more hb2.size
  have hr2 := Reads.of_own ho2
  have hmax : (packP fs).1.length ≤ 9223372036854775807 := by
    have h := (unhide HO1).2
    rcases h with ⟨_, h0⟩ | ⟨g, cap, cur, e1, _, _, h2, h3, _⟩
    · omega
    · unfold maxLen at h3; omega
  have HS := hide (sameBytes_any A1 A2 _ c1 c2 (packP fs).1 _ w2 rfl hmax hr1 hr2)
  have HB2 := hide ((unhide HB1).trans (hb2.mono (unhide HB1).size))
  clear ho2 hb2 hr1 hr2
  go_wp2_with fail
  refine (unhide HS).mono ?_
  rintro e w3 ⟨rfl, nq, rfl⟩
  go_wp2_with fail
  go_ret
  exact ⟨by simp, below_drewN (unhide HB2) _⟩
end Go.Proofs.Ytgafnnfgkkiedab
