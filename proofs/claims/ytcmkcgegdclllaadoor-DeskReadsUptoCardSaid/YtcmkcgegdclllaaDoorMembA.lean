/- Contracts of lab.May, of the reference's LabMay and reads. Conditions: none beyond what each theorem states. -/
import Derived.Test.YtcmkcgegdclllaaDoorMembP
import Derived.Test.YtcmkcgegdclllaaDoorProg
import Derived.Test.YtcmkcgegdclllaaDoorKit
namespace Go.Proofs.YtcmkcgegdclllaaDoor
open Go.RowKit
set_option linter.unusedVariables false

theorem bit_i64 (s who : Nat) (hs : s ≤ 255) : (bits .and .i64 ((s:Int) / 2 ^ who) 1 == 1) = s.testBit who := by
  have e : ((s:Int) / 2 ^ who) = ((s / 2 ^ who : Nat) : Int) := by simp
  have hd : s / 2 ^ who ≤ 255 := Nat.le_trans (Nat.div_le_self _ _) hs
  rw [e, show (1:Int) = ((1:Nat):Int) from rfl, i64_and_nat _ _ (by omega) (by omega), Nat.and_one_is_mod, Nat.testBit_eq_decide_div_mod_eq]
  rw [Bool.eq_iff_iff]; simp; omega

theorem labReads_any (s who : Nat) (hs : s ≤ 255) (hw : who ≤ 7) (w : World) :
    Calls Tryd.prog 16 #[.int .i64 s, .int .i64 who] w fun e w' => e = .returned (.bool (s.testBit who)) ∧ w = w' := by
  go_enter Tryd.func16, Tryd.ntmps16
  go_wp2
  go_ret
  exact ⟨ret_bool (bit_i64 s who hs), rfl⟩

def mayB (s : Int) : Bool := decide (0 ≤ s ∧ s ≤ 255)

theorem labMay_ref (s : Int) (w : World) :
    Calls Tryd.prog 15 #[.int .i64 s] w fun e w' => e = .returned (.bool (mayB s)) ∧ w = w' := by
  go_enter Tryd.func15, Tryd.ntmps15
  go_wp2
  all_goals
    go_ret
    exact ⟨ret_bool (by unfold mayB; rw [Bool.eq_iff_iff]; simp; try omega), rfl⟩

theorem andNot_label (s : Int) (h0 : 0 ≤ s) (h1 : s ≤ 9223372036854775807) : (bits .andNot .u64 s 255 == 0) = decide (s ≤ 255) := by
  obtain ⟨n, rfl⟩ := Int.eq_ofNat_of_zero_le h0
  rw [show (255:Int) = ((255:Nat):Int) from rfl, u64_andNot_nat n 255 (by omega) (by omega)]
  have hd : (n &&& (18446744073709551615 - 255)) / 2^8 = n / 2^8 := by
    rw [Nat.and_div_two_pow, show (18446744073709551615 - 255) / 2^8 = 2^56 - 1 from rfl, Nat.and_two_pow_sub_one_eq_mod]
    exact Nat.mod_eq_of_lt (by omega)
  have hm : (n &&& (18446744073709551615 - 255)) % 2^8 = 0 := by
    rw [Nat.and_mod_two_pow, show (18446744073709551615 - 255) % 2^8 = 0 from rfl, Nat.and_zero]
  generalize n &&& (18446744073709551615 - 255) = x at hd hm ⊢
  rw [Bool.eq_iff_iff]; simp; omega

theorem labMay_any (s : Int) (h : s ≤ 9223372036854775807) (w : World) :
    Calls Tryd.prog 13 #[.int .i64 s] w fun e w' => e = .returned (.bool (mayB s)) ∧ w = w' := by
  go_enter Tryd.func13, Tryd.ntmps13
  go_wp2
  · go_ret
    exact ⟨ret_bool (by rw [andNot_label s ‹_› h]; unfold mayB; rw [Bool.eq_iff_iff]; simp; omega), rfl⟩
  · go_ret
    exact ⟨ret_bool (by unfold mayB; rw [Bool.eq_iff_iff]; simp; omega), rfl⟩

/-! ### Join, Meet, Flows of the program -/
def ErrRange2 (f : FuncId) (z : Value) (a b : Int) (w : World) : Prop := Calls Tryd.prog f #[.int .i64 a, .int .i64 b] w fun e w' => e = .returned (.tuple #[z, .int .i64 2]) ∧ w = w'

end Go.Proofs.YtcmkcgegdclllaaDoor
