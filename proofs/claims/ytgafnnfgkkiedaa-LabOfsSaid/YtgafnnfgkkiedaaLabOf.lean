/- Contracts of lab.Of and of the reference's LabOf over whatever slice of numbers. Conditions: none beyond what each theorem states. -/
import Derived.Test.YtgafnnfgkkiedaaLabB
import Derived.Test.YtgafnnfgkkiedaaMem
import Derived.BigQuiet
namespace Go.Proofs.Ytgafnnfgkkiedaa
open Go.RowKit

def ofGo : List Int → Nat → Bool → Int × Int
  | [], m, d => if d then (0, 7) else (m, 0)
  | z :: l, m, d => if z < 0 ∨ 7 < z then (0, 2) else ofGo l (m ||| 2 ^ z.toNat) (d || m.testBit z.toNat)

theorem drop_cons {α : Type} (l : List α) (k : Nat) (x : α) (h : l[k]? = some x) : l.drop k = x :: l.drop (k + 1) := by
  obtain ⟨hl, rfl⟩ := List.getElem?_eq_some_iff.1 h
  exact List.drop_eq_getElem_cons hl

theorem shr_u64 (m j : Nat) (hm : m ≤ 255) : (bits .and .u64 ((m : Int) / 2 ^ j) 1 == 1) = m.testBit j := by
  have e : ((m:Int) / 2 ^ j) = ((m / 2 ^ j : Nat) : Int) := by simp
  have hd : m / 2 ^ j ≤ 255 := Nat.le_trans (Nat.div_le_self _ _) hm
  rw [e, show (1:Int) = ((1:Nat):Int) from rfl, u64_and_nat _ _ (by omega) (by omega), Nat.and_one_is_mod, Nat.testBit_eq_decide_div_mod_eq]
  rw [Bool.eq_iff_iff]; simp; omega

theorem labOf_any (A : Option Addr) (n c : Nat) (zs : List Int) (w : World) (hl : zs.length = n) (hm : n ≤ 9223372036854775807) (hr : Reads w w.heap.size 1 A n (zs.map (.int .i64))) :
    Calls Try.prog 17 #[.slice A n c] w fun e w' => e = .returned (.tuple #[.int .i64 (ofGo zs 0 false).1, .int .i64 (ofGo zs 0 false).2]) ∧ w = w' := by
  have HR := hide hr
  clear hr
  have HL := hide hl
  clear hl
  go_enter Try.func17, Try.ntmps17
  go_wp2
  go_loop [4, 5, 10] (fun m d i => ∃ (k : Nat) (M : Nat) (D : Bool), k ≤ n ∧ i = .int .i64 k ∧ m = .int .u64 M ∧ M ≤ 255 ∧ d = .int .i64 (if D then 7 else 0) ∧ Hid (ofGo (zs.drop k) M D = ofGo zs 0 false)) (fun _ _ i => n - (intOf i).toNat)
  case atStart => exact ⟨0, 0, false, Nat.zero_le _, rfl, rfl, by omega, rfl, rfl⟩
  case round =>
    obtain ⟨k, M, D, hk, rfl, rfl, hM, hd, HI⟩ := hrel
    by_cases hlt : k < n
    · obtain ⟨ad, u, rfl, _, hx, hc⟩ := (unhide HR).at_ hlt
      obtain ⟨z, hz, rfl⟩ : ∃ z, zs[k]? = some z ∧ u = .int .i64 z := by
        rw [List.getElem?_map] at hx
        cases h : zs[k]? with
        | none => rw [h] at hx; cases hx
        | some z => rw [h] at hx; exact ⟨z, rfl, by injection hx with hx; exact hx.symm⟩
      have HI2 := hide (by have h := unhide HI; rw [drop_cons zs k z hz, ofGo] at h; exact h)
      clear HI
      clear hx hz
      subst hd
      by_cases h1 : z < 0
      · have HF := hide (by have h := unhide HI2; rw [if_pos (Or.inl h1)] at h; exact h)
        clear HI2
        cases D
        all_goals
          go_wp2_with fail
          go_ret2
          exact ⟨by rw [← unhide HF]; rfl, rfl⟩
      · by_cases h2 : 7 < z
        · have HF := hide (by have h := unhide HI2; rw [if_pos (Or.inr h2)] at h; exact h)
          clear HI2
          cases D
          all_goals
            go_wp2_with fail
            go_ret2
            exact ⟨by rw [← unhide HF]; rfl, rfl⟩
        · obtain ⟨j, rfl⟩ := Int.eq_ofNat_of_zero_le (show 0 ≤ z by omega)
          have HF := hide (by have h := unhide HI2; rw [if_neg (by omega), Int.toNat_natCast] at h; exact h)
          clear HI2 h1
          have hj : j ≤ 7 := by omega
          clear h2
          have hpow : (2:Nat)^j ≤ 128 := Nat.le_trans (Nat.pow_le_pow_right (by omega) hj) (by omega)
          have hpow' : (0:Int) ≤ (2:Int)^j ∧ (2:Int)^j ≤ 128 := by
            have : ((2^j : Nat) : Int) ≤ 128 := Int.ofNat_le.2 hpow
            have h0 : (0:Int) ≤ ((2^j : Nat) : Int) := Int.natCast_nonneg _
            simpa using And.intro h0 this
          have hbit := shr_u64 M j hM
          have hor : bits .or .u64 (M : Int) ((2:Int) ^ j) = ((M ||| 2 ^ j : Nat) : Int) := by
            have := u64_or_nat M (2 ^ j) (by omega) (by omega)
            simpa using this
          have hM2 : M ||| 2 ^ j ≤ 255 := by
            have := Nat.or_lt_two_pow (n := 8) (show M < 2 ^ 8 by omega) (show 2 ^ j < 2 ^ 8 by omega)
            omega
          cases ht : M.testBit j
          all_goals cases D
          all_goals
            have HT := hide ht
            rw [ht] at hbit
            clear ht
            go_wp2_with fail
            go_round
            case rel => exact ⟨k + 1, M ||| 2 ^ j, _, by omega, by go_num, rfl, hM2, rfl, (by have h := unhide HF; rw [unhide HT] at h; exact h)⟩
            case measure => simp [intOf]; omega
    · obtain rfl : k = n := by omega
      have HF := hide (by have h := unhide HI; rw [List.drop_of_length_le (by rw [unhide HL]; exact Nat.le_refl _), ofGo] at h; exact h)
      clear HI
      subst hd
      cases D
      all_goals
        go_wp2_with fail
        go_ret2
        exact ⟨by rw [← unhide HF]; rfl, rfl⟩
end Go.Proofs.Ytgafnnfgkkiedaa
