/- Contracts of share.Split, of what it calls, and of sort.Search for its closure. Conditions: none beyond what each theorem states. -/
import Derived.Test.YtiljallignlbgaaProg
import Derived.Test.YtiljallignlbgaaShareP
namespace Go.Proofs.Ytiljallignlbgaa
open Go.RowKit
set_option linter.unusedVariables false

theorem info_int' : (Try.prog.info? 3).map (fun i => (i.zero, i.size, i.bytes)) = some (some (.int .i64 0), 1, 8) := by kernel_rfl

theorem least_any (A : Option Addr) (n c : Nat) (ws : List Int) (lv : Int) (B : Nat) (w : World) (hl : ws.length = n) (hn : n ≤ 16) (hw : ∀ z ∈ ws, 0 ≤ z ∧ z ≤ 1048576) (h0 : 0 ≤ lv) (h1 : lv ≤ 1048577) (hr : Reads w B 1 A n (ws.map (.int .i64))) :
    Calls Try.prog 50 #[.slice A n c, .int .i64 lv] w fun e w' => e = .returned (.int .i64 (leastL ws lv)) ∧ w = w' := by
  have HR := hide hr
  have HL := hide hl
  have HW := hide hw
  clear hr hl hw
  go_enter Try.func50, Try.ntmps50
  go_wp2_with fail
  go_loop [4, 9] (fun s i => ∃ (k : Nat) (s0 : Int), k ≤ n ∧ i = .int .i64 k ∧ s = .int .i64 s0 ∧ 0 ≤ s0 ∧ s0 ≤ 1048576 * k ∧ Hid (s0 + leastL (ws.drop k) lv = leastL ws lv)) (fun _ i => n - (intOf i).toNat)
  case atStart => exact ⟨0, 0, Nat.zero_le _, rfl, rfl, by omega, by omega, by show 0 + leastL (ws.drop 0) lv = leastL ws lv; simp⟩
  case round =>
    obtain ⟨k, s0, hk, rfl, rfl, hs0, hs1, HI⟩ := hrel
    by_cases hlt : k < n
    · obtain ⟨b, o, z, rfl, _, hz, hc⟩ := at_num (unhide HR) hlt
      have hzb := unhide HW z (List.mem_of_getElem? hz)
      have HI2 := hide (show (s0 + min z lv) + leastL (ws.drop (k + 1)) lv = leastL ws lv by
        have h := unhide HI
        rw [drop_cons ws k z hz, leastL] at h
        omega)
      have hz0 := hzb.1
      have hz1 := hzb.2
      clear HI hz hzb
      by_cases hm : z ≤ lv
      · have HI3 := hide (show (s0 + z) + leastL (ws.drop (k + 1)) lv = leastL ws lv by have h := unhide HI2; rw [Int.min_eq_left hm] at h; exact h)
        go_wp2_with fail
        go_round
        case rel => exact ⟨k + 1, s0 + z, by omega, by go_num, rfl, by omega, by omega, unhide HI3⟩
        case measure => simp [intOf]; omega
      · have HI3 := hide (show (s0 + lv) + leastL (ws.drop (k + 1)) lv = leastL ws lv by have h := unhide HI2; rw [Int.min_eq_right (by omega)] at h; exact h)
        have hm' : lv < z := by omega
        clear hm
        go_wp2_with fail
        go_round
        case rel => exact ⟨k + 1, s0 + lv, by omega, by go_num, rfl, by omega, by omega, unhide HI3⟩
        case measure => simp [intOf]; omega
    · obtain rfl : k = n := by omega
      have HF := hide (show s0 = leastL ws lv by
        have h := unhide HI
        rw [List.drop_of_length_le (by rw [unhide HL]; exact Nat.le_refl _), leastL] at h
        omega)
      clear HI
      go_wp2_with fail
      go_ret
      exact ⟨ret_int (unhide HF), rfl⟩

theorem splitClo_any (A : Option Addr) (n c : Nat) (ws : List Int) (total lv : Int) (B : Nat) (w : World) (pw pt : Addr) (hl : ws.length = n) (hn : n ≤ 16) (hw : ∀ z ∈ ws, 0 ≤ z ∧ z ≤ 1048576) (h0 : 0 ≤ lv) (h1 : lv ≤ 1048577) (hr : Reads w B 1 A n (ws.map (.int .i64)))
    (cw : w.cell? pw = some (.slice A n c)) (ct : w.cell? pt = some (.int .i64 total)) :
    Calls Try.prog 49 #[.int .i64 lv, .pointer (some pw), .pointer (some pt)] w fun e w' => e = .returned (.bool (decide (total < leastL ws lv))) ∧ ∃ m, w.drewN m = w' := by
  have HC := hide (fun q : Nat => least_any A n c ws lv B (w.drewN q) hl hn hw h0 h1 (hr.drewN q))
  clear hr hl hw
  go_enter Try.func49, Try.ntmps49
  go_wp2_with fail
  go_quiet ((go_at_call 50; exact quiet_left (unhide HC _)))
  go_wp2_with fail
  go_ret
  exact ⟨rfl, _, rfl⟩

theorem clo_enters (args : Array Value) (W : World) : (callFunc 49 args).run Try.prog W = .ok (.enter 49 args) W :=
  callFunc_enters Try.func49 (by kernel_rfl) rfl args W

/-- 'sort.Search' for a function value that only reads: an index at which it turns -/
theorem search_any (fn : FuncId) (cap : Array Value) (f : Int → Bool) (N : Nat) (hN : N ≤ 2000000) (w : World)
    (hrun : ∀ args W, (callFunc fn args).run Try.prog W = .ok (.enter fn args) W)
    (h : ∀ (k : Nat) (q : Nat), k < N → Calls Try.prog fn (#[.int .i64 k] ++ cap) (w.drewN q) fun e w' => e = .returned (.bool (f k)) ∧ ∃ m, (w.drewN q).drewN m = w') :
    Calls Try.prog 48 #[.int .i64 N, .func (.func fn) #[] cap] w fun e w' => ∃ i : Nat, e = .returned (.int .i64 i) ∧ i ≤ N ∧ (i = 0 ∨ f ((i : Int) - 1) = false) ∧ (i = N ∨ f i = true) ∧ ∃ m, w.drewN m = w' := by
  have H := hide h
  clear h
  go_enter Try.func48, Try.ntmps48
  go_wp2
  go_loopw [5, 6] (fun x y wr => ∃ i j q : Nat, i ≤ j ∧ j ≤ N ∧ x = .int .i64 i ∧ y = .int .i64 j ∧ wr = w.drewN q ∧ Hid ((i = 0 ∨ f ((i : Int) - 1) = false) ∧ (j = N ∨ f j = true))) (fun x y _ => (intOf y - intOf x).toNat)
  case atStart => exact ⟨0, N, 0, Nat.zero_le _, Nat.le_refl _, rfl, rfl, rfl, .inl rfl, .inl rfl⟩
  case round =>
    obtain ⟨i, j, q, hij, hjN, rfl, rfl, rfl, HI⟩ := hrel
    by_cases hlt : i < j
    · have hk : (i + j) / 2 < N := by omega
      have hmid : IntKind.u64.wrap ((i : Int) + (j : Int)) = (i : Int) + (j : Int) := by simp [IntKind.wrap, IntKind.bits, IntKind.signed]; omega
      have e2 : (((i + j) / 2 : Nat) : Int) = ((i : Int) + (j : Int)) / 2 := by omega
      have Hk := unhide H ((i + j) / 2) q hk
      rw [e2] at Hk
      have HI2 := hide (unhide HI)
      clear HI
      cases hf : f (((i : Int) + (j : Int)) / 2) with
      | true =>
        rw [hf] at Hk
        have Hf := hide hf
        have HK := hide Hk
        clear hf Hk
        go_wp2_with fail
        refine (unhide HK).mono ?_
        rintro e w2 ⟨rfl, m, rfl⟩
        go_wp2_with fail
        go_round
        case rel =>
          refine ⟨i, (i + j) / 2, q + m, by omega, by omega, rfl, by rw [← e2], rfl, (unhide HI2).1, .inr ?_⟩
          rw [e2]; exact unhide Hf
        case measure => simp [intOf]; omega
      | false =>
        rw [hf] at Hk
        have Hf := hide hf
        have HK := hide Hk
        clear hf Hk
        go_wp2_with fail
        refine (unhide HK).mono ?_
        rintro e w2 ⟨rfl, m, rfl⟩
        go_wp2_with fail
        go_round
        case rel =>
          refine ⟨(i + j) / 2 + 1, j, q + m, by omega, by omega, by rw [← e2]; rfl, rfl, rfl, .inr ?_, (unhide HI2).2⟩
          rw [Int.natCast_add, e2]; simpa using unhide Hf
        case measure => simp [intOf]; omega
    · obtain rfl : i = j := by omega
      have HI2 := hide (unhide HI)
      clear HI
      go_wp2_with fail
      go_ret
      exact ⟨i, rfl, hjN, (unhide HI2).1, (unhide HI2).2, q, rfl⟩
end Go.Proofs.Ytiljallignlbgaa

