/- The contract of the method put of wire's strip; bits and bytes. Conditions: none beyond what each theorem states. -/
import Derived.Test.YtbkciniikahjhaaWireA
namespace Go.Proofs.Ytbkciniikahjhaa
open Go.RowKit
set_option linter.unusedVariables false

theorem pow_le_128 (r : Nat) (hr : r ≤ 7) : 2 ^ r ≤ 128 := Nat.le_trans (Nat.pow_le_pow_right (by omega) hr) (by omega)
theorem put_val (old bit r : Nat) (hr : r < 8) (hbit : bit ≤ 1) (hold : old ≤ 255) (hlow : old % 2 ^ (8 - r) = 0) :
    bits .or .u8 (old : Int) (wrap64 ((bit : Int) * 2 ^ (7 - r)) % 256) = ((old + bit * 2 ^ (7 - r) : Nat) : Int) ∧ old + bit * 2 ^ (7 - r) ≤ 255 := by
  have hp := pow_le_128 (7 - r) (by omega)
  have hy : bit * 2 ^ (7 - r) ≤ 128 := by
    rcases (show bit = 0 ∨ bit = 1 by omega) with rfl | rfl
    · simp
    · simpa using hp
  have e1 : ((bit : Int) * 2 ^ (7 - r)) = ((bit * 2 ^ (7 - r) : Nat) : Int) := by simp
  have e2 : wrap64 ((bit * 2 ^ (7 - r) : Nat) : Int) % 256 = ((bit * 2 ^ (7 - r) : Nat) : Int) := by unfold wrap64; omega
  have hlt : bit * 2 ^ (7 - r) < 2 ^ (8 - r) := by
    have e : 2 ^ (8 - r) = 2 * 2 ^ (7 - r) := by rw [show 8 - r = (7 - r) + 1 from by omega, Nat.pow_succ]; omega
    rw [e]
    have hpos : 0 < 2 ^ (7 - r) := Nat.pow_pos (by omega)
    rcases (show bit = 0 ∨ bit = 1 by omega) with rfl | rfl
    · simpa using hpos
    · omega
  have hj := nat_join (8 - r) old (bit * 2 ^ (7 - r)) hlow hlt
  have hor := Nat.or_lt_two_pow (n := 8) (show old < 2 ^ 8 by omega) (show bit * 2 ^ (7 - r) < 2 ^ 8 by omega)
  rw [hj] at hor
  rw [e1, e2, u8_or_nat old _ (by omega) (by omega), hj]
  exact ⟨rfl, by omega⟩

theorem stripPut_any (g h : Nat) (m c at0 bit : Nat) (old : Nat) (w : World) (hw : at0 / 8 < m) (hc : m ≤ c) (hat : at0 ≤ 1000000) (hbit : bit ≤ 1) (hold : old ≤ 255) (hlow : old % 2 ^ (8 - at0 % 8) = 0)
    (c0 : w.cell? ⟨g, 0, none⟩ = some (.slice (some ⟨h, 0, none⟩) m c)) (c1 : w.cell? ⟨g, 1, none⟩ = some (.int .i64 at0)) (c2 : w.cell? ⟨h, at0 / 8, none⟩ = some (.int .u8 old))
    (f1 : w.frozen? ⟨g, 1, none⟩ = false) (f2 : w.frozen? ⟨h, at0 / 8, none⟩ = false) (hgh : h ≠ g) :
    Calls Try.prog 56 #[.pointer (some ⟨g, 0, none⟩), .int .i64 bit] w fun e w' => e = .returned (.tuple #[]) ∧
      ((w.setCell ⟨h, at0 / 8, none⟩ (.int .u8 ((old + bit * 2 ^ (7 - at0 % 8) : Nat) : Int))).setCell ⟨g, 1, none⟩ (.int .i64 (at0 + 1))).drew = w' := by
  have hv := (put_val old bit (at0 % 8) (Nat.mod_lt _ (by omega)) hbit hold hlow).1
  go_enter Try.func56, Try.ntmps56
  go_wp2_with fail
  go_region
  go_wp2
  go_end0
  exact ⟨rfl, rfl⟩

/-! ### Bits and bytes, plainly -/
/-- the value of the bits from 'from_' on, so many -/
def bitsVal (bs : List Nat) : Nat → Nat → Nat
  | _, 0 => 0
  | i, k + 1 => 2 * bitsVal bs i k + bs.getD (i + k) 0
def byteOf (bs : List Nat) (i : Nat) : Nat := bitsVal bs (8 * i) 8
def bytesOf (bs : List Nat) (n : Nat) : List Int := (List.range n).map fun i => (byteOf bs i : Int)
def fieldBits (f : Int × Int) : List Nat := (List.range f.1.toNat).map fun k => f.2.toNat / 2 ^ (f.1.toNat - 1 - k) % 2
def allBits (fs : List (Int × Int)) : List Nat := fs.flatMap fieldBits
def fitsF (f : Int × Int) : Bool := decide (0 ≤ f.2 ∧ f.2 < 2 ^ f.1.toNat)
def packP (fs : List (Int × Int)) : List Int × Int :=
  if (sizeP (fs.map (·.1))).2 ≠ 0 then ([], (sizeP (fs.map (·.1))).2) else if fs.all fitsF then (bytesOf (allBits fs) (sizeP (fs.map (·.1))).1.toNat, 0) else ([], 12)

theorem bitsVal_lt (bs : List Nat) (h : ∀ b ∈ bs, b ≤ 1) (i k : Nat) : bitsVal bs i k < 2 ^ k := by
  induction k with
  | zero => simp [bitsVal]
  | succ k ih =>
    have : bs.getD (i + k) 0 ≤ 1 := by
      rw [List.getD_eq_getElem?_getD]
      cases hg : bs[i + k]? with
      | none => simp
      | some b => exact h b (List.mem_of_getElem? hg)
    rw [bitsVal, Nat.pow_succ]
    omega
theorem bitsVal_snoc_before (bs : List Nat) (b i k : Nat) (h : i + k ≤ bs.length) : bitsVal (bs ++ [b]) i k = bitsVal bs i k := by
  induction k with
  | zero => rfl
  | succ k ih =>
    rw [bitsVal, bitsVal, ih (by omega)]
    congr 1
    rw [List.getD_eq_getElem?_getD, List.getD_eq_getElem?_getD, List.getElem?_append_left (by omega)]
theorem bitsVal_snoc_after (bs : List Nat) (b i k : Nat) (h : bs.length < i) : bitsVal (bs ++ [b]) i k = bitsVal bs i k := by
  induction k with
  | zero => rfl
  | succ k ih =>
    rw [bitsVal, bitsVal, ih]
    congr 1
    rw [List.getD_eq_getElem?_getD, List.getD_eq_getElem?_getD, List.getElem?_eq_none (by simp; omega), List.getElem?_eq_none (by omega)]
theorem bitsVal_snoc_in (bs : List Nat) (b i k : Nat) (h : i ≤ bs.length) (h2 : bs.length < i + k) : bitsVal (bs ++ [b]) i k = bitsVal bs i k + b * 2 ^ (i + k - 1 - bs.length) := by
  induction k with
  | zero => omega
  | succ k ih =>
    rw [bitsVal, bitsVal]
    by_cases he : bs.length = i + k
    · have g1 : (bs ++ [b]).getD (i + k) 0 = b := by rw [← he]; simp
      have g2 : bs.getD (i + k) 0 = 0 := by rw [List.getD_eq_getElem?_getD, List.getElem?_eq_none (by omega)]; rfl
      rw [bitsVal_snoc_before bs b i k (by omega), g1, g2, show i + (k + 1) - 1 - bs.length = 0 by omega]
      simp
    · rw [ih (by omega), List.getD_eq_getElem?_getD, List.getD_eq_getElem?_getD, List.getElem?_eq_none (by simp; omega), List.getElem?_eq_none (by omega)]
      rw [show i + (k + 1) - 1 - bs.length = (i + k - 1 - bs.length) + 1 by omega, Nat.pow_succ, Nat.mul_add]
      simp [Nat.mul_comm, Nat.mul_left_comm]
theorem bitsVal_low (bs : List Nat) (i k : Nat) (h : i ≤ bs.length) (h2 : bs.length ≤ i + k) : bitsVal bs i k % 2 ^ (i + k - bs.length) = 0 := by
  induction k with
  | zero => simp [bitsVal]
  | succ k ih =>
    by_cases he : bs.length = i + (k + 1)
    · rw [he]; simp [Nat.mod_one]
    · rw [bitsVal, List.getD_eq_getElem?_getD, List.getElem?_eq_none (by omega), show i + (k + 1) - bs.length = (i + k - bs.length) + 1 by omega, Nat.pow_succ]
      have := ih (by omega)
      simp only [Option.getD_none, Nat.add_zero]
      rw [Nat.mul_comm 2, Nat.mul_mod_mul_right, this, Nat.zero_mul]

theorem bytesOf_snoc (bs : List Nat) (b n : Nat) (hn : bs.length / 8 < n) :
    bytesOf (bs ++ [b]) n = (bytesOf bs n).set (bs.length / 8) ((byteOf bs (bs.length / 8) + b * 2 ^ (7 - bs.length % 8) : Nat) : Int) := by
  refine List.ext_getElem (by simp [bytesOf]) fun i h1 h2 => ?_
  simp only [bytesOf, List.getElem_map, List.getElem_range, List.getElem_set]
  by_cases he : bs.length / 8 = i
  · rw [if_pos he, ← he]
    unfold byteOf
    rw [bitsVal_snoc_in bs b _ 8 (by omega) (by omega)]
    rw [show 8 * (bs.length / 8) + 8 - 1 - bs.length = 7 - bs.length % 8 by omega]
  · rw [if_neg he]
    unfold byteOf
    rcases Nat.lt_or_gt_of_ne he with h | h
    · rw [bitsVal_snoc_after bs b _ 8 (by omega)]
    · rw [bitsVal_snoc_before bs b _ 8 (by omega)]
theorem byteOf_low (bs : List Nat) : byteOf bs (bs.length / 8) % 2 ^ (8 - bs.length % 8) = 0 := by
  have := bitsVal_low bs (8 * (bs.length / 8)) 8 (by omega) (by omega)
  rw [show 8 * (bs.length / 8) + 8 - bs.length = 8 - bs.length % 8 by omega] at this
  exact this
theorem byteOf_le (bs : List Nat) (h : ∀ b ∈ bs, b ≤ 1) (i : Nat) : byteOf bs i ≤ 255 := by
  have := bitsVal_lt bs h (8 * i) 8
  unfold byteOf
  omega
theorem bytesOf_nil (n : Nat) : bytesOf [] n = List.replicate n 0 := by
  refine List.ext_getElem (by simp [bytesOf]) fun i h1 h2 => ?_
  simp [bytesOf, byteOf, bitsVal]
theorem bitsVal_pad (bs : List Nat) (p i k : Nat) : bitsVal (bs ++ List.replicate p 0) i k = bitsVal bs i k := by
  induction k with
  | zero => rfl
  | succ k ih =>
    rw [bitsVal, bitsVal, ih]
    congr 1
    rw [List.getD_eq_getElem?_getD, List.getD_eq_getElem?_getD, List.getElem?_append]
    split
    · rfl
    · rename_i h
      have h2 : bs[i + k]? = none := List.getElem?_eq_none (by omega)
      rw [h2, List.getElem?_replicate]
      split <;> rfl
theorem fieldBits_le (f : Int × Int) : ∀ b ∈ fieldBits f, b ≤ 1 := by
  intro b hb
  simp only [fieldBits, List.mem_map] at hb
  obtain ⟨k, _, rfl⟩ := hb
  omega
theorem allBits_le (fs : List (Int × Int)) : ∀ b ∈ allBits fs, b ≤ 1 := by
  intro b hb
  simp only [allBits, List.mem_flatMap] at hb
  obtain ⟨f, _, hf⟩ := hb
  exact fieldBits_le f b hf
theorem fieldBits_len (f : Int × Int) : (fieldBits f).length = f.1.toNat := by simp [fieldBits]
end Go.Proofs.Ytbkciniikahjhaa
