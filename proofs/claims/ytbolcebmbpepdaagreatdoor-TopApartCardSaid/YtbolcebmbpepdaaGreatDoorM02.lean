/- Contracts and plain facts, set together by program out of smaller texts. Conditions: none beyond what each theorem states. -/
import Derived.WalkKit
import Derived.WalkSpells
import Derived.WalkLawsBesides
import Derived.Test.YtbolcebmbpepdaaGreatDoorProg
namespace Go.Proofs.YtbolcebmbpepdaaGreatDoor
set_option linter.unusedVariables false
section
open Go.RowKit
theorem hide {p : Prop} (h : p) : Hid p := h
theorem zAa {p : Prop} (h : Hid p) : p := h
theorem zDh {P : Program} {f : FuncId} {fn : Func} {c : Code} (hf : P.funcs[f]? = some fn) (hname : (fn.name == "runtime.NumGoroutine") = false) (hb : fn.body = some c) (args : Array Value) (w : World) :
    (callFunc f args).run P w = .ok (.enter f args) w := by
 have h1 : fn.name ≠ "runtime.NumGoroutine" := by simpa using hname
 simp [callFunc, hf, h1, hb]
theorem zBn {k : IntKind} {a b : Int} (h : a = b) : Ending.returned (.int k a) = .returned (.int k b) := by rw [h]
theorem zAo {a b : Bool} (h : a = b) : Ending.returned (.bool a) = .returned (.bool b) := by rw [h]
theorem zTp {n : Int} (h : (Lit.int .i64 n).wf = true) : -9223372036854775808 ≤ n ∧ n ≤ 9223372036854775807 := by
 have hmin : IntKind.i64.min = -9223372036854775808 := rfl
 have hmax : IntKind.i64.max = 9223372036854775807 := rfl
 simp only [Lit.wf, Bool.and_eq_true, decide_eq_true_eq] at h
 omega
theorem zKf (a : Nat) (ha : a < 9223372036854775808) : (BitVec.ofInt 64 (a : Int)).toNat = a := by
 rw [BitVec.ofInt_natCast, BitVec.toNat_ofNat]; exact Nat.mod_eq_of_lt (by omega)
theorem zFj (a b : Nat) (ha : a < 9223372036854775808) (hb : b < 9223372036854775808) : bits .and .i64 (a : Int) (b : Int) = ((a &&& b : Nat) : Int) := by
 have hx : a &&& b < 2 ^ 63 := Nat.and_lt_two_pow _ (by omega)
 show IntKind.i64.wrap ((BitVec.ofInt 64 (a : Int) &&& BitVec.ofInt 64 (b : Int)).toNat : Int) = _
 rw [BitVec.toNat_and, zKf a ha, zKf b hb, IntKind.wrap_i64]
 omega
theorem zPs (a b : Nat) (ha : a < 9223372036854775808) (hb : b < 9223372036854775808) : bits .or .i64 (a : Int) (b : Int) = ((a ||| b : Nat) : Int) := by
 have hx : a ||| b < 2 ^ 63 := Nat.or_lt_two_pow (by omega) (by omega)
 show IntKind.i64.wrap ((BitVec.ofInt 64 (a : Int) ||| BitVec.ofInt 64 (b : Int)).toNat : Int) = _
 rw [BitVec.toNat_or, zKf a ha, zKf b hb, IntKind.wrap_i64]
 omega
end
section
open Go.RowKit
theorem zYw (s who : Nat) (hs : s ≤ 255) : (bits .and .i64 ((s:Int) / 2 ^ who) 1 == 1) = s.testBit who := by
 have e : ((s:Int) / 2 ^ who) = ((s / 2 ^ who : Nat) : Int) := by simp
 have hd : s / 2 ^ who ≤ 255 := Nat.le_trans (Nat.div_le_self _ _) hs
 rw [e, show (1:Int) = ((1:Nat):Int) from rfl, zFj _ _ (by omega) (by omega), Nat.and_one_is_mod, Nat.testBit_eq_decide_div_mod_eq]
 rw [Bool.eq_iff_iff]; simp; omega
def mayB (s : Int) : Bool := decide (0 ≤ s ∧ s ≤ 255)
theorem zVs (s : Int) (h0 : 0 ≤ s) (h1 : s ≤ 9223372036854775807) : (bits .andNot .u64 s 255 == 0) = decide (s ≤ 255) := by
 obtain ⟨n, rfl⟩ := Int.eq_ofNat_of_zero_le h0
 rw [show (255:Int) = ((255:Nat):Int) from rfl, u64_andNot_nat n 255 (by omega) (by omega)]
 have hd : (n &&& (18446744073709551615 - 255)) / 2^8 = n / 2^8 := by
  rw [Nat.and_div_two_pow, show (18446744073709551615 - 255) / 2^8 = 2^56 - 1 from rfl, Nat.and_two_pow_sub_one_eq_mod]
  exact Nat.mod_eq_of_lt (by omega)
 have hm : (n &&& (18446744073709551615 - 255)) % 2^8 = 0 := by
  rw [Nat.and_mod_two_pow, show (18446744073709551615 - 255) % 2^8 = 0 from rfl, Nat.and_zero]
 generalize n &&& (18446744073709551615 - 255) = x at hd hm ⊢
 rw [Bool.eq_iff_iff]; simp; omega
theorem zPo (s : Int) (h : s ≤ 9223372036854775807) (w : World) :
    Calls Tryz.prog 51 #[.int .i64 s] w fun e w' => e = .returned (.bool (mayB s)) ∧ w = w' := by
 go_enter Tryz.func51, Tryz.ntmps51
 go_wp2
 ·go_ret
  exact ⟨zAo (by rw [zVs s ‹_› h]; unfold mayB; rw [Bool.eq_iff_iff]; simp; omega), rfl⟩
 ·go_ret
  exact ⟨zAo (by unfold mayB; rw [Bool.eq_iff_iff]; simp; omega), rfl⟩
theorem zYv (s b : Nat) : decide ((0 : Int) < (s : Int) / 2 ^ b) = decide (2 ^ b ≤ s) := by
 have e : ((s : Int) / 2 ^ b) = ((s / 2 ^ b : Nat) : Int) := by simp
 rw [e]
 have h : 0 < s / 2 ^ b ↔ 2 ^ b ≤ s := ⟨fun h => by
  rcases Nat.lt_or_ge s (2 ^ b) with h1 | h1
  ·rw [Nat.div_eq_of_lt h1] at h; omega
  ·exact h1, fun h => Nat.div_pos h (Nat.two_pow_pos b)⟩
 rw [Bool.eq_iff_iff, decide_eq_true_eq, decide_eq_true_eq, ← h]
 omega
end
end Go.Proofs.YtbolcebmbpepdaaGreatDoor
