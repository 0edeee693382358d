/- Contracts of the functions of package lab and of the reference's labels: what each call returns. Conditions: none beyond what each theorem states. -/
import Derived.Test.YtgafnnfgkkiedaaProg
import Derived.Test.YtgafnnfgkkiedaaKit
namespace Go.Proofs.Ytgafnnfgkkiedaa
open Go.RowKit

def labSum (so : Nat → Bool) : Nat → Nat
  | 0 => 0
  | k + 1 => labSum so k + if so k then 2 ^ k else 0
theorem labSum_lt (so : Nat → Bool) (k : Nat) : labSum so k < 2 ^ k := by
  induction k with
  | zero => simp [labSum]
  | succ k ih => simp only [labSum]; rw [Nat.pow_succ]; split <;> omega

theorem labBy_any (fn : FuncId) (cap : Array Value) (so : Nat → Bool) (w : World)
    (hrun : ∀ args W, (callFunc fn args).run Try.prog W = .ok (.enter fn args) W)
    (h : ∀ k : Nat, k < 8 → Calls Try.prog fn (#[.int .i64 k] ++ cap) w fun e w' => e = .returned (.bool (so k)) ∧ w = w') :
    Calls Try.prog 21 #[.func (.func fn) #[] cap] w fun e w' => e = .returned (.int .i64 (labSum so 8)) ∧ w = w' := by
  have H := hide h
  clear h
  go_enter Try.func21, Try.ntmps21
  go_wp2
  go_loop [3, 4] (fun t i => ∃ k : Nat, k ≤ 8 ∧ i = .int .i64 k ∧ t = .int .i64 (labSum so k)) (fun _ i => 8 - (intOf i).toNat)
  case atStart => exact ⟨0, Nat.zero_le _, rfl, rfl⟩
  case round =>
    obtain ⟨k, hk, rfl, rfl⟩ := hrel
    have hb := labSum_lt so k
    by_cases hlt : k < 8
    · have hpow : (2:Nat)^k ≤ 128 := by
        have := Nat.pow_le_pow_right (n := 2) (by omega) (show k ≤ 7 by omega)
        omega
      have hpow' : (0:Int) ≤ (2:Int)^k ∧ (2:Int)^k ≤ 128 := by
        have : ((2^k : Nat) : Int) ≤ 128 := by omega
        have h0 : (0:Int) ≤ ((2^k : Nat) : Int) := by omega
        simpa using And.intro h0 this
      cases hso : so k
      all_goals
        have hc := (unhide H) k hlt
        rw [hso] at hc
        have H2 := hide hso
        clear hso
        go_wp2_with fail
        refine hc.mono ?_
        rintro e w' ⟨rfl, rfl⟩
        go_wp2
        go_round
        case rel => exact ⟨k + 1, by omega, by go_num, by rw [labSum, unhide H2]; first | (simp; done) | (simp; unfold wrap64; omega)⟩
        case measure => simp [intOf]; omega
    · have hk8 : k = 8 := by omega
      subst hk8
      go_wp2
      go_ret
      exact ⟨rfl, rfl⟩

theorem bit_i64 (s who : Nat) (hs : s ≤ 255) : (bits .and .i64 ((s:Int) / 2 ^ who) 1 == 1) = s.testBit who := by
  have e : ((s:Int) / 2 ^ who) = ((s / 2 ^ who : Nat) : Int) := by simp
  have hd : s / 2 ^ who ≤ 255 := Nat.le_trans (Nat.div_le_self _ _) hs
  rw [e, show (1:Int) = ((1:Nat):Int) from rfl, i64_and_nat _ _ (by omega) (by omega), Nat.and_one_is_mod, Nat.testBit_eq_decide_div_mod_eq]
  rw [Bool.eq_iff_iff]; simp; omega

theorem labReads_any (s who : Nat) (hs : s ≤ 255) (hw : who ≤ 7) (w : World) :
    Calls Try.prog 23 #[.int .i64 s, .int .i64 who] w fun e w' => e = .returned (.bool (s.testBit who)) ∧ w = w' := by
  go_enter Try.func23, Try.ntmps23
  go_wp2
  go_ret
  exact ⟨ret_bool (bit_i64 s who hs), rfl⟩

def mayB (s : Int) : Bool := decide (0 ≤ s ∧ s ≤ 255)

theorem labMay_ref (s : Int) (w : World) :
    Calls Try.prog 10 #[.int .i64 s] w fun e w' => e = .returned (.bool (mayB s)) ∧ w = w' := by
  go_enter Try.func10, Try.ntmps10
  go_wp2
  all_goals
    go_ret
    exact ⟨ret_bool (by unfold mayB; rw [Bool.eq_iff_iff]; simp; try omega), rfl⟩

theorem andNot_label (s : Int) (h0 : 0 ≤ s) (h1 : s ≤ 9223372036854775807) : (bits .andNot .u64 s 255 == 0) = decide (s ≤ 255) := by
  obtain ⟨n, rfl⟩ := Int.eq_ofNat_of_zero_le h0
  rw [show (255:Int) = ((255:Nat):Int) from rfl, u64_andNot_nat n 255 (by omega) (by omega)]
  have hd : (n &&& (18446744073709551615 - 255)) / 2^8 = n / 2^8 := by
    rw [Nat.and_div_two_pow, show (18446744073709551615 - 255) / 2^8 = 2^56 - 1 from rfl, Nat.and_two_pow_sub_one_eq_mod]
    exact Nat.mod_eq_of_lt (by omega)
  have hm : (n &&& (18446744073709551615 - 255)) % 2^8 = 0 := by
    rw [Nat.and_mod_two_pow, show (18446744073709551615 - 255) % 2^8 = 0 from rfl, Nat.and_zero]
  generalize n &&& (18446744073709551615 - 255) = x at hd hm ⊢
  rw [Bool.eq_iff_iff]; simp; omega

theorem labMay_any (s : Int) (h : s ≤ 9223372036854775807) (w : World) :
    Calls Try.prog 9 #[.int .i64 s] w fun e w' => e = .returned (.bool (mayB s)) ∧ w = w' := by
  go_enter Try.func9, Try.ntmps9
  go_wp2
  · go_ret
    exact ⟨ret_bool (by rw [andNot_label s ‹_› h]; unfold mayB; rw [Bool.eq_iff_iff]; simp; omega), rfl⟩
  · go_ret
    exact ⟨ret_bool (by unfold mayB; rw [Bool.eq_iff_iff]; simp; omega), rfl⟩

/-! ### Join, Meet, Flows of the program -/
def ErrRange2 (f : FuncId) (z : Value) (a b : Int) (w : World) : Prop := Calls Try.prog f #[.int .i64 a, .int .i64 b] w fun e w' => e = .returned (.tuple #[z, .int .i64 2]) ∧ w = w'

theorem labJoin_ok (a b : Nat) (ha : a ≤ 255) (hb : b ≤ 255) (w : World) :
    Calls Try.prog 11 #[.int .i64 a, .int .i64 b] w fun e w' => e = .returned (.tuple #[.int .i64 ((a &&& b : Nat) : Int), .int .i64 0]) ∧ w = w' := by
  have h1 : mayB a = true := by simp [mayB]; omega
  have h2 : mayB b = true := by simp [mayB]; omega
  have hand := u64_and_nat a b (by omega) (by omega)
  have hle : a &&& b ≤ 255 := Nat.le_trans Nat.and_le_left ha
  go_enter Try.func11, Try.ntmps11
  go_wp2_with (first
    | (go_at_call 9; refine (labMay_any _ (by omega) _).mono ?_; rintro e w' ⟨rfl, rfl⟩)
    | go_in)
  go_ret2
  exact ⟨rfl, rfl⟩

theorem labMeet_ok (a b : Nat) (ha : a ≤ 255) (hb : b ≤ 255) (w : World) :
    Calls Try.prog 13 #[.int .i64 a, .int .i64 b] w fun e w' => e = .returned (.tuple #[.int .i64 ((a ||| b : Nat) : Int), .int .i64 0]) ∧ w = w' := by
  have h1 : mayB a = true := by simp [mayB]; omega
  have h2 : mayB b = true := by simp [mayB]; omega
  have hand := u64_or_nat a b (by omega) (by omega)
  have hle : a ||| b < 2 ^ 8 := Nat.or_lt_two_pow (by omega) (by omega)
  go_enter Try.func13, Try.ntmps13
  go_wp2_with (first
    | (go_at_call 9; refine (labMay_any _ (by omega) _).mono ?_; rintro e w' ⟨rfl, rfl⟩)
    | go_in)
  go_ret2
  exact ⟨rfl, rfl⟩

theorem nat_eqz (x : Nat) : (x == 0) = ((x : Int) == 0) := by rw [Bool.eq_iff_iff]; simp

theorem labFlows_ok (a b : Nat) (ha : a ≤ 255) (hb : b ≤ 255) (w : World) :
    Calls Try.prog 15 #[.int .i64 a, .int .i64 b] w fun e w' => e = .returned (.tuple #[.bool ((b &&& (18446744073709551615 - a)) == 0), .int .i64 0]) ∧ w = w' := by
  have h1 : mayB a = true := by simp [mayB]; omega
  have h2 : mayB b = true := by simp [mayB]; omega
  have hand := u64_andNot_nat b a (by omega) (by omega)
  go_enter Try.func15, Try.ntmps15
  go_wp2_with (first
    | (go_at_call 9; refine (labMay_any _ (by omega) _).mono ?_; rintro e w' ⟨rfl, rfl⟩)
    | go_in)
  go_ret2
  exact ⟨by rw [nat_eqz]; rfl, rfl⟩

theorem labJoin_bad (a b : Int) (ha : a ≤ 9223372036854775807) (hb : b ≤ 9223372036854775807) (h : (mayB a && mayB b) = false) (w : World) : ErrRange2 11 (.int .i64 0) a b w := by
  unfold ErrRange2
  cases h1 : mayB a
  all_goals cases h2 : mayB b
  all_goals first | (simp [h1, h2] at h; done) | skip
  all_goals
    clear h
    go_enter Try.func11, Try.ntmps11
    go_wp2_with (first
      | (go_at_call 9; refine (labMay_any _ (by omega) _).mono ?_; rintro e w' ⟨rfl, rfl⟩)
      | go_in)
    go_ret2
    exact ⟨rfl, rfl⟩
theorem labMeet_bad (a b : Int) (ha : a ≤ 9223372036854775807) (hb : b ≤ 9223372036854775807) (h : (mayB a && mayB b) = false) (w : World) : ErrRange2 13 (.int .i64 0) a b w := by
  unfold ErrRange2
  cases h1 : mayB a
  all_goals cases h2 : mayB b
  all_goals first | (simp [h1, h2] at h; done) | skip
  all_goals
    clear h
    go_enter Try.func13, Try.ntmps13
    go_wp2_with (first
      | (go_at_call 9; refine (labMay_any _ (by omega) _).mono ?_; rintro e w' ⟨rfl, rfl⟩)
      | go_in)
    go_ret2
    exact ⟨rfl, rfl⟩
theorem labFlows_bad (a b : Int) (ha : a ≤ 9223372036854775807) (hb : b ≤ 9223372036854775807) (h : (mayB a && mayB b) = false) (w : World) : ErrRange2 15 (.bool false) a b w := by
  unfold ErrRange2
  cases h1 : mayB a
  all_goals cases h2 : mayB b
  all_goals first | (simp [h1, h2] at h; done) | skip
  all_goals
    clear h
    go_enter Try.func15, Try.ntmps15
    go_wp2_with (first
      | (go_at_call 9; refine (labMay_any _ (by omega) _).mono ?_; rintro e w' ⟨rfl, rfl⟩)
      | go_in)
    go_ret2
    exact ⟨rfl, rfl⟩

/-! ### Join, Meet, Flows of the reference -/
def ErrRange2B (f : FuncId) (z : Value) (a b : Int) (w : World) : Prop := Calls Try.prog f #[.int .i64 a, .int .i64 b] w fun e w' => e = .returned (.tuple #[z, .int .i64 2]) ∧ Below w.heap.size w w'

theorem labBy_22 (args : Array Value) (W : World) : (callFunc 22 args).run Try.prog W = .ok (.enter 22 args) W :=
  callFunc_enters Try.func22 (by kernel_rfl) rfl args W

theorem labRefJoin1_any (a b k : Nat) (ha : a ≤ 255) (hb : b ≤ 255) (hk : k < 8) (pa pb : Addr) (w : World) (ca : w.cell? pa = some (.int .i64 a)) (cb : w.cell? pb = some (.int .i64 b)) :
    Calls Try.prog 22 #[.int .i64 k, .pointer (some pa), .pointer (some pb)] w fun e w' => e = .returned (.bool (a.testBit k && b.testBit k)) ∧ w = w' := by
  cases h1 : a.testBit k
  all_goals
    go_enter Try.func22, Try.ntmps22
    go_wp2_with (go_at_call 23; refine (labReads_any _ _ (by omega) (by omega) _).mono ?_; rintro e w' ⟨rfl, rfl⟩)
    go_ret
    exact ⟨by simp, rfl⟩

theorem two_boxes (w : World) (a b : Int) : (((w.alloc (.cells #[.int .i64 a] 3)).alloc (.cells #[.int .i64 b] 3)).cell? ⟨w.heap.size, 0, none⟩ = some (.int .i64 a)) ∧
    (((w.alloc (.cells #[.int .i64 a] 3)).alloc (.cells #[.int .i64 b] 3)).cell? ⟨w.heap.size + 1, 0, none⟩ = some (.int .i64 b)) := by
  constructor <;> simp [go_sem]

theorem labRefJoin_ok (a b : Nat) (ha : a ≤ 255) (hb : b ≤ 255) (w : World) :
    Calls Try.prog 12 #[.int .i64 a, .int .i64 b] w fun e w' => e = .returned (.tuple #[.int .i64 (labSum (fun k => a.testBit k && b.testBit k) 8), .int .i64 0]) ∧ Below w.heap.size w w' := by
  have h1 : mayB a = true := by simp [mayB]; omega
  have h2 : mayB b = true := by simp [mayB]; omega
  go_enter Try.func12, Try.ntmps12
  go_wp2_with (first
    | (go_at_call 10; refine (labMay_ref _ _).mono ?_; rintro e w' ⟨rfl, rfl⟩))
  refine (labBy_any 22 _ (fun k => a.testBit k && b.testBit k) _ labBy_22 ?hc).mono ?_
  case hc =>
    intro k hk
    exact labRefJoin1_any a b k ha hb hk _ _ _ (two_boxes w a b).1 (two_boxes w a b).2
  rintro e w' ⟨rfl, rfl⟩
  go_wp2
  go_ret2
  exact ⟨rfl, by repeat (first | exact Below.refl _ _ | refine Below.alloc ?_ (by simp) _)⟩
end Go.Proofs.Ytgafnnfgkkiedaa
