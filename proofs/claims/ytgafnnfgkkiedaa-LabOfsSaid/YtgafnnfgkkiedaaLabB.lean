/- Contracts of the reference's Meet, Flows and of both programs at arguments that are no labels. Conditions: none beyond what each theorem states. -/
import Derived.Test.YtgafnnfgkkiedaaLabA
namespace Go.Proofs.Ytgafnnfgkkiedaa
open Go.RowKit

theorem labBy_25 (args : Array Value) (W : World) : (callFunc 25 args).run Try.prog W = .ok (.enter 25 args) W :=
  callFunc_enters Try.func25 (by kernel_rfl) rfl args W

theorem labRefMeet1_any (a b k : Nat) (ha : a ≤ 255) (hb : b ≤ 255) (hk : k < 8) (pa pb : Addr) (w : World) (ca : w.cell? pa = some (.int .i64 a)) (cb : w.cell? pb = some (.int .i64 b)) :
    Calls Try.prog 25 #[.int .i64 k, .pointer (some pa), .pointer (some pb)] w fun e w' => e = .returned (.bool (a.testBit k || b.testBit k)) ∧ w = w' := by
  cases h1 : a.testBit k
  all_goals
    go_enter Try.func25, Try.ntmps25
    go_wp2_with (go_at_call 23; refine (labReads_any _ _ (by omega) (by omega) _).mono ?_; rintro e w' ⟨rfl, rfl⟩)
    go_ret
    exact ⟨by simp, rfl⟩

theorem labRefMeet_ok (a b : Nat) (ha : a ≤ 255) (hb : b ≤ 255) (w : World) :
    Calls Try.prog 14 #[.int .i64 a, .int .i64 b] w fun e w' => e = .returned (.tuple #[.int .i64 (labSum (fun k => a.testBit k || b.testBit k) 8), .int .i64 0]) ∧ Below w.heap.size w w' := by
  have h1 : mayB a = true := by simp [mayB]; omega
  have h2 : mayB b = true := by simp [mayB]; omega
  go_enter Try.func14, Try.ntmps14
  go_wp2_with (first
    | (go_at_call 10; refine (labMay_ref _ _).mono ?_; rintro e w' ⟨rfl, rfl⟩))
  refine (labBy_any 25 _ (fun k => a.testBit k || b.testBit k) _ labBy_25 ?hc).mono ?_
  case hc =>
    intro k hk
    exact labRefMeet1_any a b k ha hb hk _ _ _ (two_boxes w a b).1 (two_boxes w a b).2
  rintro e w' ⟨rfl, rfl⟩
  go_wp2
  go_ret2
  exact ⟨rfl, by repeat (first | exact Below.refl _ _ | refine Below.alloc ?_ (by simp) _)⟩

theorem labRefJoin_bad (a b : Int) (h : (mayB a && mayB b) = false) (w : World) : ErrRange2B 12 (.int .i64 0) a b w := by
  unfold ErrRange2B
  cases h1 : mayB a
  all_goals cases h2 : mayB b
  all_goals first | (simp [h1, h2] at h; done) | skip
  all_goals
    clear h
    go_enter Try.func12, Try.ntmps12
    go_wp2_with (go_at_call 10; refine (labMay_ref _ _).mono ?_; rintro e w' ⟨rfl, rfl⟩)
    go_ret2
    exact ⟨rfl, by repeat (first | exact Below.refl _ _ | refine Below.alloc ?_ (by simp) _)⟩
theorem labRefMeet_bad (a b : Int) (h : (mayB a && mayB b) = false) (w : World) : ErrRange2B 14 (.int .i64 0) a b w := by
  unfold ErrRange2B
  cases h1 : mayB a
  all_goals cases h2 : mayB b
  all_goals first | (simp [h1, h2] at h; done) | skip
  all_goals
    clear h
    go_enter Try.func14, Try.ntmps14
    go_wp2_with (go_at_call 10; refine (labMay_ref _ _).mono ?_; rintro e w' ⟨rfl, rfl⟩)
    go_ret2
    exact ⟨rfl, by repeat (first | exact Below.refl _ _ | refine Below.alloc ?_ (by simp) _)⟩
theorem labRefFlows_bad (a b : Int) (h : (mayB a && mayB b) = false) (w : World) : ErrRange2 16 (.bool false) a b w := by
  unfold ErrRange2
  cases h1 : mayB a
  all_goals cases h2 : mayB b
  all_goals first | (simp [h1, h2] at h; done) | skip
  all_goals
    clear h
    go_enter Try.func16, Try.ntmps16
    go_wp2_with (go_at_call 10; refine (labMay_ref _ _).mono ?_; rintro e w' ⟨rfl, rfl⟩)
    go_ret2
    exact ⟨rfl, rfl⟩

/-- all bits of b below k are in a -/
def labSub (a b : Nat) : Nat → Bool
  | 0 => true
  | k + 1 => labSub a b k && (!b.testBit k || a.testBit k)
theorem labSub_false (a b k : Nat) {n : Nat} (hk : k < n) (h1 : b.testBit k = true) (h2 : a.testBit k = false) : labSub a b n = false := by
  induction n with
  | zero => omega
  | succ n ih =>
    rw [labSub]
    by_cases e : k = n
    · subst e; simp [h1, h2]
    · simp [ih (by omega)]

theorem labRefFlows_ok (a b : Nat) (ha : a ≤ 255) (hb : b ≤ 255) (w : World) :
    Calls Try.prog 16 #[.int .i64 a, .int .i64 b] w fun e w' => e = .returned (.tuple #[.bool (labSub a b 8), .int .i64 0]) ∧ w = w' := by
  have h1 : mayB a = true := by simp [mayB]; omega
  have h2 : mayB b = true := by simp [mayB]; omega
  go_enter Try.func16, Try.ntmps16
  go_wp2_with (go_at_call 10; refine (labMay_ref _ _).mono ?_; rintro e w' ⟨rfl, rfl⟩)
  go_loop [6] (fun i => ∃ k : Nat, k ≤ 8 ∧ i = .int .i64 k ∧ labSub a b k = true) (fun i => 8 - (intOf i).toNat)
  case atStart => exact ⟨0, Nat.zero_le _, rfl, rfl⟩
  case round =>
    obtain ⟨k, hk, rfl, hs⟩ := hrel
    have HS := hide hs
    clear hs
    by_cases hlt : k < 8
    · cases hbk : b.testBit k
      · go_wp2_with (go_at_call 23; refine (labReads_any _ _ (by omega) (by omega) _).mono ?_; rintro e w' ⟨rfl, rfl⟩)
        go_round
        case rel => exact ⟨k + 1, by omega, by go_num, by rw [labSub, unhide HS, hbk]; rfl⟩
        case measure => simp [intOf]; omega
      · cases hak : a.testBit k
        · go_wp2_with (go_at_call 23; refine (labReads_any _ _ (by omega) (by omega) _).mono ?_; rintro e w' ⟨rfl, rfl⟩)
          go_ret2
          exact ⟨by rw [labSub_false a b k hlt hbk hak]; rfl, rfl⟩
        · go_wp2_with (go_at_call 23; refine (labReads_any _ _ (by omega) (by omega) _).mono ?_; rintro e w' ⟨rfl, rfl⟩)
          go_round
          case rel => exact ⟨k + 1, by omega, by go_num, by rw [labSub, unhide HS, hbk, hak]; rfl⟩
          case measure => simp [intOf]; omega
    · have hk8 : k = 8 := by omega
      subst hk8
      go_wp2_with fail
      go_ret2
      exact ⟨by rw [unhide HS]; rfl, rfl⟩

/-! ### The plain law: both sides agree -/
theorem labSum_testBit (n : Nat) (hn : n < 256) : labSum (fun k => n.testBit k) 8 = n := by
  have h : ∀ m : Fin 256, labSum (fun k => m.val.testBit k) 8 = m.val := by decide +kernel
  exact h ⟨n, hn⟩
theorem labJoin_eq (a b : Nat) (ha : a ≤ 255) : labSum (fun k => a.testBit k && b.testBit k) 8 = a &&& b := by
  have : (fun k => a.testBit k && b.testBit k) = fun k => (a &&& b).testBit k := by funext k; rw [Nat.testBit_and]
  rw [this]
  exact labSum_testBit _ (Nat.lt_of_le_of_lt Nat.and_le_left (by omega))
theorem labMeet_eq (a b : Nat) (ha : a ≤ 255) (hb : b ≤ 255) : labSum (fun k => a.testBit k || b.testBit k) 8 = a ||| b := by
  have : (fun k => a.testBit k || b.testBit k) = fun k => (a ||| b).testBit k := by funext k; rw [Nat.testBit_or]
  rw [this]
  exact labSum_testBit _ (Nat.or_lt_two_pow (n := 8) (by omega) (by omega))
theorem labSub_true (a b n : Nat) (h : labSub a b n = true) : ∀ k, k < n → b.testBit k = true → a.testBit k = true := by
  intro k hk hb
  cases ha : a.testBit k
  · rw [labSub_false a b k hk hb ha] at h; cases h
  · rfl
theorem labSub_of (a b n : Nat) (h : ∀ k, k < n → b.testBit k = true → a.testBit k = true) : labSub a b n = true := by
  induction n with
  | zero => rfl
  | succ n ih =>
    rw [labSub, ih (fun k hk => h k (by omega))]
    cases hb : b.testBit n
    · rfl
    · simp [h n (by omega) hb]
theorem labFlows_eq (a b : Nat) (ha : a ≤ 255) (hb : b ≤ 255) : ((b &&& (18446744073709551615 - a)) == 0) = labSub a b 8 := by
  have ht : ∀ k, (b &&& (18446744073709551615 - a)).testBit k = (b.testBit k && (decide (k < 64) && !a.testBit k)) := by
    intro k
    rw [Nat.testBit_and, show 18446744073709551615 - a = 2 ^ 64 - (a + 1) from by omega, Nat.testBit_two_pow_sub_succ (by omega)]
  rw [Bool.eq_iff_iff]
  constructor
  · intro h
    have h0 : b &&& (18446744073709551615 - a) = 0 := by simpa using h
    refine labSub_of a b 8 fun k hk hbk => ?_
    have := ht k
    rw [h0, hbk] at this
    cases hak : a.testBit k
    · rw [hak] at this; simp at this; omega
    · rfl
  · intro h
    have h1 := labSub_true a b 8 h
    have : b &&& (18446744073709551615 - a) = 0 := by
      refine Nat.eq_of_testBit_eq fun k => ?_
      rw [ht, Nat.zero_testBit]
      cases hbk : b.testBit k
      · rfl
      · have hk : k < 8 := by
          rcases Nat.lt_or_ge k 8 with h8 | h8
          · exact h8
          · have := Nat.testBit_lt_two_pow (show b < 2 ^ k from Nat.lt_of_lt_of_le (show b < 2 ^ 8 by omega) (Nat.pow_le_pow_right (by omega) h8))
            rw [this] at hbk; cases hbk
        simp [h1 k hk hbk]
    simp [this]
end Go.Proofs.Ytgafnnfgkkiedaa
