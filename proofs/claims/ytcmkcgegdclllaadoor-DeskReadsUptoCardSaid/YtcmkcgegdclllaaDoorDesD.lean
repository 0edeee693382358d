/- Contract of the reference's deci. Conditions: none beyond what each theorem states. -/
import Derived.Test.YtcmkcgegdclllaaDoorMembA
import Derived.Lib.ItoaNum
namespace Go.Proofs.YtcmkcgegdclllaaDoor
open Go.RowKit
set_option linter.unusedVariables false

def bstr (l : List UInt8) : ByteArray := ⟨l.toArray⟩
theorem bstr_size (l : List UInt8) : (bstr l).size = l.length := by simp [bstr, ByteArray.size]
theorem bstr_append (a b : List UInt8) : bstr a ++ bstr b = bstr (a ++ b) := by
  apply ByteArray.ext
  rw [ByteArray.data_append]
  simp [bstr]
theorem decDigits_low (m : Nat) (h : m < 10) : Lib.decDigits m = [UInt8.ofNat (48 + m)] := by rw [Lib.decDigits, dif_pos h]
theorem decDigits_high (m : Nat) (h : ¬ m < 10) : Lib.decDigits m = Lib.decDigits (m / 10) ++ [UInt8.ofNat (48 + m % 10)] := by rw [Lib.decDigits, dif_neg h]
theorem encode_digit : ∀ d : Fin 10, Utf8.encode (wrap32 (48 + ((d.val : Nat) : Int))) = bstr [UInt8.ofNat (48 + d.val)] := by decide +kernel
theorem digits_len {m k N : Nat} (hm : m ≠ 0) (h : m * 10 ^ k ≤ N) (hN : N ≤ 9223372036854775808) : k ≤ 18 := by
  refine Nat.not_lt.1 fun hk => ?_
  have h1 : 10 ^ 19 ≤ 10 ^ k := Nat.pow_le_pow_right (by omega) hk
  have h2 : 1 * 10 ^ k ≤ m * 10 ^ k := Nat.mul_le_mul_right _ (by omega)
  have : (10:Nat) ^ 19 = 10000000000000000000 := by decide
  omega
/-- a number's last digit, and what is ahead of it -/
theorem deci_step (z : Int) : ∃ (T Z : Int) (d : Nat), z.tmod 10 = T ∧ z.tdiv 10 = Z ∧ d = z.natAbs % 10 ∧ d ≤ 9 ∧ (T < 0 → -T = d ∧ z < 0) ∧ (¬ T < 0 → T = d) ∧ Z.natAbs = z.natAbs / 10 ∧ (Z < 0 → z < 0) ∧ (0 < Z → 0 < z) := by
  obtain ⟨m, rfl | rfl⟩ := Int.eq_nat_or_neg z
  · have h1 : (m : Int).tmod 10 = ((m % 10 : Nat) : Int) := rfl
    have h2 : (m : Int).tdiv 10 = ((m / 10 : Nat) : Int) := rfl
    rw [h1, h2]
    refine ⟨_, _, (m : Int).natAbs % 10, rfl, rfl, rfl, by omega, ?_, ?_, ?_, ?_, ?_⟩ <;> omega
  · have h1 : (-(m : Int)).tmod 10 = -((m % 10 : Nat) : Int) := by rw [Int.neg_tmod]; rfl
    have h2 : (-(m : Int)).tdiv 10 = -((m / 10 : Nat) : Int) := by rw [Int.neg_tdiv]; rfl
    rw [h1, h2]
    refine ⟨_, _, (-(m : Int)).natAbs % 10, rfl, rfl, rfl, by omega, ?_, ?_, ?_, ?_, ?_⟩ <;> omega
set_option maxRecDepth 100000 in
set_option maxHeartbeats 4000000 in
theorem deci_any (n : Int) (w : World) (h0 : -9223372036854775808 ≤ n) (h1 : n ≤ 9223372036854775807) :
    Calls Tryd.prog 21 #[.int .i64 n] w fun e w' => e = .returned (.string (bstr (Lib.itoa n))) ∧ w = w' := by
  have HI := hide (show Lib.itoa n = if n < 0 then 45 :: Lib.decDigits n.natAbs else Lib.decDigits n.natAbs by
    unfold Lib.itoa
    split
    · rfl
    · congr 1; omega)
  go_enter Tryd.func21, Tryd.ntmps21
  go_wp2_with fail
  go_loop [0, 3] (fun x s => ∃ (z : Int) (out : List UInt8), x = .int .i64 z ∧ s = .string (bstr out) ∧ -9223372036854775808 ≤ z ∧ z ≤ 9223372036854775807 ∧ z.natAbs * 10 ^ out.length ≤ n.natAbs ∧ (z = 0 → out = []) ∧ Hid (Lib.decDigits n.natAbs = Lib.decDigits z.natAbs ++ out)) (fun x _ => (intOf x).natAbs)
  case atStart => exact ⟨n, [], rfl, rfl, h0, h1, by simp, fun _ => rfl, hide (by simp)⟩
  case round =>
    obtain ⟨z, out, rfl, rfl, h2, h3, h4, h5, HD⟩ := hrel
    obtain ⟨T, Z, d, e1, e2, e3, hd, hneg, hpos, hZ, h8, h9⟩ := deci_step z
    have hol : out.length ≤ 18 := by
      by_cases hz : z = 0
      · rw [h5 hz]; simp
      · exact digits_len (m := z.natAbs) (by omega) h4 (by omega)
    have henc := encode_digit ⟨d, by omega⟩
    dsimp only at henc
    obtain ⟨c, hc⟩ : ∃ c, c = UInt8.ofNat (48 + d) := ⟨_, rfl⟩
    rw [← hc] at henc
    have hcat : bstr [c] ++ bstr out = bstr (c :: out) := bstr_append [c] out
    obtain ⟨x, hx⟩ : ∃ x : Int, x = (d : Int) := ⟨_, rfl⟩
    obtain ⟨y, hy⟩ : ∃ y : Int, y = 48 + (d : Int) := ⟨_, rfl⟩
    have hw48 : wrap64 (48 + x) = y := by rw [hx, hy]; unfold wrap64; omega
    rw [← hy] at henc
    obtain ⟨Z0, hZ0⟩ : ∃ Z0, Z0 = Z := ⟨_, rfl⟩
    rw [← hZ0] at e2
    have hwZ : wrap64 Z0 = Z := by rw [hZ0]; unfold wrap64; omega
    have hsz : ¬ 9223372036854775807 < (bstr [c]).size + (bstr out).size := by rw [bstr_size, bstr_size]; simp; omega
    have hsz2 : ¬ 9223372036854775807 < (ByteArray.mk #[45]).size + (bstr (c :: out)).size := by rw [bstr_size]; show ¬ _ < 1 + _; simp; omega
    have hcat2 : ByteArray.mk #[45] ++ bstr (c :: out) = bstr (45 :: c :: out) := bstr_append [45] (c :: out)
    have HD0 := hide (show Z = 0 → Lib.decDigits n.natAbs = c :: out from fun h => by
      rw [unhide HD, decDigits_low z.natAbs (by omega), hc, e3, Nat.mod_eq_of_lt (by omega)]
      rfl)
    have HD1 := hide (show Z ≠ 0 → Lib.decDigits n.natAbs = Lib.decDigits Z.natAbs ++ c :: out from fun h => by
      rw [unhide HD, decDigits_high z.natAbs (by omega), hc, e3, hZ, List.append_assoc]
      rfl)
    have HM := hide (show Z ≠ 0 → Z.natAbs * 10 ^ (c :: out).length ≤ n.natAbs from fun _ => by
      refine Nat.le_trans ?_ h4
      rw [hZ, List.length_cons, Nat.pow_succ, Nat.mul_comm (10 ^ out.length), ← Nat.mul_assoc]
      exact Nat.mul_le_mul_right _ (by omega))
    have HMS := hide (show Z ≠ 0 → Z.natAbs < z.natAbs from fun _ => by omega)
    have hZl : -9223372036854775808 ≤ Z ∧ Z ≤ 9223372036854775807 := by omega
    have HZ := hide hZl
    clear e3 hc h4 h5 hZ hZl HD h0 h1 h8 h9 hol h2 h3 hy hZ0
    by_cases hT : T < 0
    · have hw := hneg hT
      have hw1 : wrap64 (-T) = x := by rw [hx]; unfold wrap64; omega
      clear hneg hpos hw hd hx
      by_cases hz0 : Z = 0
      · have hz1 : (Z == 0) = true := by simpa using hz0
        have HE := hide (unhide HD0 hz0)
        clear hz0
        by_cases hn : n < 0
        · have HR := hide (show Lib.itoa n = 45 :: c :: out by rw [unhide HI, if_pos hn, unhide HE])
          go_wp2_with fail
          go_ret
          exact ⟨by rw [unhide HR]; rfl, rfl⟩
        · have HR := hide (show Lib.itoa n = c :: out by rw [unhide HI, if_neg hn, unhide HE])
          go_wp2_with fail
          go_ret
          exact ⟨by rw [unhide HR]; rfl, rfl⟩
      · have hz1 : (Z == 0) = false := by simpa using hz0
        have HE := hide (unhide HD1 hz0)
        have HM2 := hide (unhide HM hz0)
        have HMS2 := hide (unhide HMS hz0)
        have HZ0 := hide hz0
        clear hz0
        go_wp2_with fail
        go_round
        case rel => exact ⟨Z, c :: out, by rw [hwZ], rfl, (unhide HZ).1, (unhide HZ).2, unhide HM2, fun h => absurd h (unhide HZ0), HE⟩
        case measure => simp [intOf]; rw [hwZ]; exact unhide HMS2
    · obtain rfl : T = x := by rw [hx]; exact hpos hT
      clear hneg hpos hd hx
      by_cases hz0 : Z = 0
      · have hz1 : (Z == 0) = true := by simpa using hz0
        have HE := hide (unhide HD0 hz0)
        clear hz0
        by_cases hn : n < 0
        · have HR := hide (show Lib.itoa n = 45 :: c :: out by rw [unhide HI, if_pos hn, unhide HE])
          go_wp2_with fail
          go_ret
          exact ⟨by rw [unhide HR]; rfl, rfl⟩
        · have HR := hide (show Lib.itoa n = c :: out by rw [unhide HI, if_neg hn, unhide HE])
          go_wp2_with fail
          go_ret
          exact ⟨by rw [unhide HR]; rfl, rfl⟩
      · have hz1 : (Z == 0) = false := by simpa using hz0
        have HE := hide (unhide HD1 hz0)
        have HM2 := hide (unhide HM hz0)
        have HMS2 := hide (unhide HMS hz0)
        have HZ0 := hide hz0
        clear hz0
        go_wp2_with fail
        go_round
        case rel => exact ⟨Z, c :: out, by rw [hwZ], rfl, (unhide HZ).1, (unhide HZ).2, unhide HM2, fun h => absurd h (unhide HZ0), HE⟩
        case measure => simp [intOf]; rw [hwZ]; exact unhide HMS2
end Go.Proofs.YtcmkcgegdclllaaDoor
