/- Contracts of the method take of wire's strip and of the reference's sameBytes. Conditions: none beyond what each theorem states. -/
import Derived.Test.YtbkciniikahjhaaWireU
namespace Go.Proofs.Ytbkciniikahjhaa
open Go.RowKit
set_option linter.unusedVariables false

theorem take_val (z r : Nat) (hz : z ≤ 255) (hr : r ≤ 7) : bits .and .i64 ((z : Int) / 2 ^ r) 1 = ((z / 2 ^ r % 2 : Nat) : Int) := by
  have e : ((z:Int) / 2 ^ r) = ((z / 2 ^ r : Nat) : Int) := by simp
  have hd : z / 2 ^ r ≤ z := Nat.div_le_self _ _
  rw [e, show (1:Int) = ((1:Nat):Int) from rfl, i64_and_nat _ _ (by omega) (by omega), Nat.and_one_is_mod]

theorem stripTake_any (g b o : Nat) (m c at0 z : Nat) (w : World) (hw : at0 / 8 < m) (hc : m ≤ c) (hat : at0 ≤ 1000000) (hz : z ≤ 255)
    (c0 : w.cell? ⟨g, 0, none⟩ = some (.slice (some ⟨b, o, none⟩) m c)) (c1 : w.cell? ⟨g, 1, none⟩ = some (.int .i64 at0)) (c2 : w.cell? ⟨b, o + at0 / 8, none⟩ = some (.int .u8 z))
    (f1 : w.frozen? ⟨g, 1, none⟩ = false) :
    Calls Try.prog 58 #[.pointer (some ⟨g, 0, none⟩)] w fun e w' => e = .returned (.int .i64 ((z / 2 ^ (7 - at0 % 8) % 2 : Nat) : Int)) ∧ (w.setCell ⟨g, 1, none⟩ (.int .i64 (at0 + 1))).drew = w' := by
  have hv := take_val z (7 - at0 % 8) hz (by omega)
  have hz2 : (0 : Int) ≤ (z : Int) / 2 ^ (7 - at0 % 8) ∧ (z : Int) / 2 ^ (7 - at0 % 8) ≤ 255 := by
    have e : ((z:Int) / 2 ^ (7 - at0 % 8)) = ((z / 2 ^ (7 - at0 % 8) : Nat) : Int) := by simp
    have hd : z / 2 ^ (7 - at0 % 8) ≤ z := Nat.div_le_self _ _
    rw [e]
    exact ⟨Int.natCast_nonneg _, Int.ofNat_le.2 (Nat.le_trans hd hz)⟩
  go_enter Try.func58, Try.ntmps58
  go_wp2_with fail
  go_region
  go_wp2
  go_ret
  exact ⟨rfl, rfl⟩

def strOf (xs : List Int) : ByteArray := xs.foldl (fun r n => r.push (UInt8.ofNat n.toNat)) ByteArray.empty
theorem conv_string (A : Option Addr) (n c : Nat) (xs : List Int) (B : Nat) (w : World) (hl : xs.length = n) (hr : Reads w B 1 A n (xs.map (.int .u8))) :
    (convert 26 9 (.slice A n c)).run Try.prog w = .ok (.string (strOf xs)) w := by
  rw [run_convert_bytes_string w _ _ _ A n c Try.underlying26 Try.underlying5 Try.underlying9]
  rcases Nat.eq_zero_or_pos n with h0 | h0
  · subst h0
    obtain rfl : xs = [] := List.eq_nil_of_length_eq_zero hl
    cases A with
    | none => simp [Conv.bytesToString, strOf, Sem.run_pure]
    | some a => exact run_bytesToString w a 0 c [] (run_loadCells_list w a [] (fun j v h => by simp at h))
  · obtain ⟨ad, rfl, _, hc⟩ := hr.2 h0
    refine run_bytesToString w ad n c xs ?_
    have := run_loadCells_list (P := Try.prog) w ad (xs.map (.int .u8)) (fun j v h => hc j v h)
    rw [List.length_map, hl] at this
    exact this

theorem strOf_data (xs : List Int) : (strOf xs).toList = xs.map fun n => UInt8.ofNat n.toNat := by
  rw [ByteArray.toList_eq]
  have H : ∀ (xs : List Int) (r : ByteArray), (xs.foldl (fun r n => r.push (UInt8.ofNat n.toNat)) r).data.toList = r.data.toList ++ xs.map fun n => UInt8.ofNat n.toNat := by
    intro xs
    induction xs with
    | nil => intro r; simp
    | cons x xs ih => intro r; rw [List.foldl_cons, ih]; simp [ByteArray.push]
  simpa [strOf] using H xs ByteArray.empty
theorem strOf_eq (xs ys : List Int) (hx : ∀ z ∈ xs, 0 ≤ z ∧ z ≤ 255) (hy : ∀ z ∈ ys, 0 ≤ z ∧ z ≤ 255) : ((strOf xs).toList == (strOf ys).toList) = sameL xs ys := by
  rw [strOf_data, strOf_data, Bool.eq_iff_iff]
  simp only [beq_iff_eq, sameL, decide_eq_true_eq]
  constructor
  · intro h
    have back : ∀ l : List Int, (∀ z ∈ l, 0 ≤ z ∧ z ≤ 255) → (l.map fun n => UInt8.ofNat n.toNat).map (fun c => ((c.toNat : Nat) : Int)) = l := by
      intro l hl
      rw [List.map_map]
      conv => rhs; rw [← List.map_id l]
      refine List.map_congr_left fun z hz => ?_
      have := hl z hz
      simp only [Function.comp_apply, id_eq, UInt8.toNat_ofNat']
      omega
    rw [← back xs hx, ← back ys hy, h]
  · intro h; rw [h]

theorem refSame_any (A A' : Option Addr) (n n' c c' : Nat) (xs ys : List Int) (B : Nat) (w : World) (hl : xs.length = n) (hl' : ys.length = n') (hx : ∀ z ∈ xs, 0 ≤ z ∧ z ≤ 255) (hy : ∀ z ∈ ys, 0 ≤ z ∧ z ≤ 255) (hr : Reads w B 1 A n (xs.map (.int .u8))) (hr' : Reads w B 1 A' n' (ys.map (.int .u8))) :
    Calls Try.prog 47 #[.slice A n c, .slice A' n' c'] w fun e w' => e = .returned (.bool (sameL xs ys)) ∧ w = w' := by
  have q1 := conv_string A n c xs B w hl hr
  have q2 := conv_string A' n' c' ys B w hl' hr'
  have HE := hide (strOf_eq xs ys hx hy)
  clear hr hr' hl hl' hx hy
  go_enter Try.func47, Try.ntmps47
  go_wp2_with fail
  go_ret
  exact ⟨ret_bool (unhide HE), rfl⟩
end Go.Proofs.Ytbkciniikahjhaa
