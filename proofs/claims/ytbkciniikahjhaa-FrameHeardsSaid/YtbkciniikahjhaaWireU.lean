/- What wire.Unpack answers, plainly: the bits of a record, the values of its fields, and why packing them again gives the record just if its unused bits are nought. Conditions: none beyond what each theorem states. -/
import Derived.Test.YtbkciniikahjhaaWireB
namespace Go.Proofs.Ytbkciniikahjhaa
open Go.RowKit
set_option linter.unusedVariables false

def fv (f : Nat → Nat) (s : Nat) : Nat → Nat
  | 0 => 0
  | k + 1 => 2 * fv f s k + f (s + k)
theorem fv_lt (f : Nat → Nat) (hf : ∀ k, f k ≤ 1) (s k : Nat) : fv f s k < 2 ^ k := by
  induction k with
  | zero => simp [fv]
  | succ k ih => rw [fv, Nat.pow_succ]; have := hf (s + k); omega
theorem fv_bit (f : Nat → Nat) (hf : ∀ k, f k ≤ 1) (s w j : Nat) (hj : j < w) : fv f s w / 2 ^ (w - 1 - j) % 2 = f (s + j) := by
  induction w with
  | zero => omega
  | succ w ih =>
    rw [fv]
    have hb := hf (s + w)
    by_cases e : j = w
    · subst e
      simp
      omega
    · rw [show w + 1 - 1 - j = (w - 1 - j) + 1 by omega, Nat.pow_succ, Nat.mul_comm (2 ^ (w - 1 - j)) 2, ← Nat.div_div_eq_div_mul, show (2 * fv f s w + f (s + w)) / 2 = fv f s w by omega]
      exact ih (by omega)
theorem fv_congr (f g : Nat → Nat) (s w : Nat) (h : ∀ j, j < w → f (s + j) = g (s + j)) : fv f s w = fv g s w := by
  induction w with
  | zero => rfl
  | succ w ih => rw [fv, fv, ih (fun j hj => h j (by omega)), h w (by omega)]
theorem bitsVal_fv (bs : List Nat) (s k : Nat) : bitsVal bs s k = fv (fun j => bs.getD j 0) s k := by
  induction k with
  | zero => rfl
  | succ k ih => rw [bitsVal, fv, ih]

def bitB (bs : List Int) (k : Nat) : Nat := (bs.getD (k / 8) 0).toNat / 2 ^ (7 - k % 8) % 2
theorem bitB_le (bs : List Int) (k : Nat) : bitB bs k ≤ 1 := by unfold bitB; omega
def valsB (bs : List Int) : List Int → Nat → List Int
  | [], _ => []
  | z :: ws, at0 => (fv (bitB bs) at0 z.toNat : Int) :: valsB bs ws (at0 + z.toNat)
def fsB (bs : List Int) : List Int → Nat → List (Int × Int)
  | [], _ => []
  | z :: ws, at0 => (z, (fv (bitB bs) at0 z.toNat : Int)) :: fsB bs ws (at0 + z.toNat)
def totalW (ws : List Int) : Nat := (ws.map Int.toNat).sum
def tailOk (bs : List Int) (s e : Nat) : Bool := decide (∀ k, k < e → s ≤ k → bitB bs k = 0)
def unpackP (ws bs : List Int) : List Int × Int :=
  if (sizeP ws).2 ≠ 0 then ([], (sizeP ws).2) else if (bs.length : Int) ≠ (sizeP ws).1 then ([], 4) else if tailOk bs (totalW ws) (8 * bs.length) then (valsB bs ws 0, 0) else ([], 4)

theorem fsB_fst (bs ws : List Int) (a : Nat) : (fsB bs ws a).map (·.1) = ws := by
  induction ws generalizing a with
  | nil => rfl
  | cons z ws ih => simp [fsB, ih]
theorem fsB_fits (bs ws : List Int) (a : Nat) : (fsB bs ws a).all fitsF = true := by
  induction ws generalizing a with
  | nil => rfl
  | cons z ws ih =>
    rw [fsB, List.all_cons, ih, Bool.and_true]
    have := fv_lt (bitB bs) (bitB_le bs) a z.toNat
    simp only [fitsF, decide_eq_true_eq]
    exact ⟨by omega, by exact_mod_cast this⟩
theorem fieldBits_fv (bs : List Int) (a : Nat) (z : Int) : fieldBits (z, (fv (bitB bs) a z.toNat : Int)) = (List.range z.toNat).map fun k => bitB bs (a + k) := by
  unfold fieldBits
  refine List.map_congr_left fun k hk => ?_
  exact fv_bit (bitB bs) (bitB_le bs) a z.toNat k (List.mem_range.1 hk)
theorem allBits_fsB (bs ws : List Int) (a : Nat) : allBits (fsB bs ws a) = (List.range (totalW ws)).map fun k => bitB bs (a + k) := by
  induction ws generalizing a with
  | nil => rfl
  | cons z ws ih =>
    have e : allBits (fsB bs (z :: ws) a) = fieldBits (z, (fv (bitB bs) a z.toNat : Int)) ++ allBits (fsB bs ws (a + z.toNat)) := by simp [allBits, fsB]
    rw [e, fieldBits_fv, ih]
    have e2 : totalW (z :: ws) = z.toNat + totalW ws := by simp [totalW]
    rw [e2, List.range_add, List.map_append, List.map_map]
    congr 1
    refine List.map_congr_left fun k _ => ?_
    simp [Nat.add_assoc]
def byteFold (z : Nat) : Nat := fv (fun j => z / 2 ^ (7 - j) % 2) 0 8
theorem byteFold_eq (z : Nat) (h : z ≤ 255) : byteFold z = z := by
  have H : ∀ m : Fin 256, byteFold m.val = m.val := by decide +kernel
  exact H ⟨z, by omega⟩
theorem fv_byte (bs : List Int) (i : Nat) (h : ∀ z ∈ bs, 0 ≤ z ∧ z ≤ 255) (hi : i < bs.length) : (fv (bitB bs) (8 * i) 8 : Int) = bs.getD i 0 := by
  have hz := h (bs.getD i 0) (by rw [List.getD_eq_getElem?_getD, List.getElem?_eq_getElem hi]; exact List.getElem_mem hi)
  obtain ⟨z, e⟩ := Int.eq_ofNat_of_zero_le hz.1
  have : fv (bitB bs) (8 * i) 8 = byteFold z := by
    have e1 : ∀ s, s ≤ 8 → fv (bitB bs) (8 * i) s = fv (fun j => z / 2 ^ (7 - j) % 2) 0 s := by
      intro s hs
      induction s with
      | zero => rfl
      | succ s ih =>
        rw [fv, fv, ih (by omega)]
        congr 1
        unfold bitB
        rw [show (8 * i + s) / 8 = i by omega, show (8 * i + s) % 8 = s by omega, e]
        simp
    exact e1 8 (Nat.le_refl _)
  rw [this, byteFold_eq z (by omega), e]

/-- packing the values again gives the record just if the unused bits are nought -/
theorem repack_iff (bs ws : List Int) (h : ∀ z ∈ bs, 0 ≤ z ∧ z ≤ 255) (ht : totalW ws ≤ 8 * bs.length) :
    bytesOf (allBits (fsB bs ws 0)) bs.length = bs ↔ tailOk bs (totalW ws) (8 * bs.length) = true := by
  rw [allBits_fsB]
  obtain ⟨T, hT⟩ : ∃ T, T = totalW ws := ⟨_, rfl⟩
  rw [← hT] at ht ⊢
  clear hT
  have hget : ∀ k, ((List.range T).map fun k => bitB bs (0 + k)).getD k 0 = if k < T then bitB bs k else 0 := by
    intro k
    rw [List.getD_eq_getElem?_getD]
    by_cases hk : k < T
    · simp [hk]
    · rw [List.getElem?_eq_none (by simpa using hk), if_neg hk]; rfl
  unfold tailOk
  rw [decide_eq_true_iff]
  constructor
  · intro he k hk hTk
    have hi : k / 8 < bs.length := by omega
    have h1 : bs.getD (k / 8) 0 = (byteOf ((List.range T).map fun k => bitB bs (0 + k)) (k / 8) : Int) := by
      conv => lhs; rw [← he]
      simp [bytesOf, hi]
    unfold bitB
    rw [h1]
    unfold byteOf
    rw [bitsVal_fv, Int.toNat_natCast]
    have hf : ∀ k, (fun j => ((List.range T).map fun k => bitB bs (0 + k)).getD j 0) k ≤ 1 := by
      intro k
      show ((List.range T).map fun k => bitB bs (0 + k)).getD k 0 ≤ 1
      rw [hget]; split
      · exact bitB_le _ _
      · omega
    have := fv_bit _ hf (8 * (k / 8)) 8 (k % 8) (Nat.mod_lt _ (by omega))
    rw [show 8 - 1 - k % 8 = 7 - k % 8 by omega] at this
    rw [this]
    show ((List.range T).map fun k => bitB bs (0 + k)).getD (8 * (k / 8) + k % 8) 0 = 0
    rw [hget, if_neg (by omega)]
  · intro htail
    refine List.ext_getElem (by simp [bytesOf]) fun i h1 h2 => ?_
    have e1 : bs[i] = bs.getD i 0 := by rw [List.getD_eq_getElem?_getD, List.getElem?_eq_getElem h2]; rfl
    rw [e1, ← fv_byte bs i h h2]
    simp only [bytesOf, List.getElem_map, List.getElem_range]
    unfold byteOf
    rw [bitsVal_fv]
    congr 1
    refine fv_congr _ _ _ _ fun j hj => ?_
    show ((List.range T).map fun k => bitB bs (0 + k)).getD (8 * i + j) 0 = bitB bs (8 * i + j)
    rw [hget]
    split
    · rfl
    · rename_i hn
      exact (htail (8 * i + j) (by omega) (by omega)).symm
end Go.Proofs.Ytbkciniikahjhaa
