/- The contract of clock.odd. Conditions: none beyond what each theorem states. -/
import Derived.Test.YtickpflebmecpaaClockC
import Derived.Test.YtickpflebmecpaaClockP
namespace Go.Proofs.Ytickpflebmecpaa
open Go.RowKit
set_option linter.unusedVariables false

structure Ev where
  k : Int
  w : Int
  o : Int
  deriving DecidableEq, Inhabited
def Ev.cells (e : Ev) : List Value := [.int .i64 e.k, .int .i64 e.w, .int .i64 e.o]
def Ev.val (e : Ev) : Value := .agg #[.int .i64 e.k, .int .i64 e.w, .int .i64 e.o]
/-- what is refused of an event behind the events 'es' -/
def oddP (sites : Int) (es : List Ev) (x : Ev) : Int :=
  if x.k < 1 ∨ 3 < x.k then 3 else if x.w < 0 ∨ sites ≤ x.w then 2 else if x.k ≠ 3 then 0
  else if x.o < 0 ∨ (es.length : Int) ≤ x.o then 2 else if (es.getD x.o.toNat default).k ≠ 2 then 4 else 0

set_option maxHeartbeats 800000 in
theorem odd_any (sites : Int) (A : Option Addr) (n c : Nat) (es : List Ev) (x : Ev) (B : Nat) (w : World) (hl : es.length = n) (hm : n ≤ 9223372036854775807) (hr : Reads w B 3 A n (es.flatMap Ev.cells)) (hB : B ≤ w.heap.size) :
    Calls Try.prog 22 #[.int .i64 sites, .slice A n c, x.val] w fun e w' => e = .returned (.int .i64 (oddP sites es x)) ∧ Below w.heap.size w w' := by
  obtain ⟨k, p, o⟩ := x
  unfold Ev.val
  dsimp only
  obtain ⟨wx, hwx⟩ : ∃ wx, wx = w.alloc (.cells #[.int .i64 k, .int .i64 p, .int .i64 o] 41) := ⟨_, rfl⟩
  have hbx : Below w.heap.size w wx := by rw [hwx]; exact (Below.refl _ _).alloc (Nat.le_refl _) _
  have hnew := Blk.new w 41 #[.int .i64 k, .int .i64 p, .int .i64 o]
  have hnew2 := hnew
  rw [← hwx] at hnew2
  have d0 := hnew.cell 0
  have d1 := hnew.cell 1
  have d2 := hnew.cell 2
  have HBX := hide hbx
  have HWX := hide hwx
  have HL := hide hl
  have HR := hide (hr.below (hbx.mono hB))
  clear hbx hnew hnew2 hr hl
  obtain ⟨R, hR⟩ : ∃ R, oddP sites es ⟨k, p, o⟩ = R := ⟨_, rfl⟩
  rw [hR]
  unfold oddP at hR
  dsimp only at hR
  have HQ := hide hR
  clear hR
  have fin : ∀ r : Int, r = R → Below w.heap.size w (w.alloc (.cells #[.int .i64 k, .int .i64 p, .int .i64 o] 41)) := fun _ _ => by rw [← unhide HWX]; exact unhide HBX
  by_cases h1 : k < 1
  · have HG := hide (show 3 = R by rw [← unhide HQ, if_pos (.inl h1)])
    go_enter Try.func22, Try.ntmps22
    go_wp2_with fail
    go_ret
    exact ⟨ret_int (unhide HG), fin _ (unhide HG)⟩
  have h1' : 1 ≤ k := by omega
  by_cases h2 : 3 < k
  · have HG := hide (show 3 = R by rw [← unhide HQ, if_pos (.inr h2)])
    go_enter Try.func22, Try.ntmps22
    go_wp2_with fail
    go_ret
    exact ⟨ret_int (unhide HG), fin _ (unhide HG)⟩
  have h2' : k ≤ 3 := by omega
  have HQ1 := hide (by have h := unhide HQ; rw [if_neg (by omega)] at h; exact h)
  clear HQ
  by_cases h3 : p < 0
  · have HG := hide (show 2 = R by rw [← unhide HQ1, if_pos (.inl h3)])
    go_enter Try.func22, Try.ntmps22
    go_wp2_with fail
    go_ret
    exact ⟨ret_int (unhide HG), fin _ (unhide HG)⟩
  have h3' : 0 ≤ p := by omega
  by_cases h4 : sites ≤ p
  · have HG := hide (show 2 = R by rw [← unhide HQ1, if_pos (.inr h4)])
    go_enter Try.func22, Try.ntmps22
    go_wp2_with fail
    go_ret
    exact ⟨ret_int (unhide HG), fin _ (unhide HG)⟩
  have h4' : p < sites := by omega
  have HQ2 := hide (by have h := unhide HQ1; rw [if_neg (by omega)] at h; exact h)
  clear HQ1
  by_cases h5 : k = 3
  rotate_left
  · have HG := hide (show 0 = R by rw [← unhide HQ2, if_pos h5])
    go_enter Try.func22, Try.ntmps22
    go_wp2_with fail
    go_ret
    exact ⟨ret_int (unhide HG), fin _ (unhide HG)⟩
  subst h5
  have HQ3 := hide (by have h := unhide HQ2; rw [if_neg (by simp)] at h; exact h)
  clear HQ2
  by_cases h6 : o < 0
  · have HG := hide (show 2 = R by rw [← unhide HQ3, if_pos (.inl h6)])
    go_enter Try.func22, Try.ntmps22
    go_wp2_with fail
    go_ret
    exact ⟨ret_int (unhide HG), fin _ (unhide HG)⟩
  have h6' : 0 ≤ o := by omega
  by_cases h7 : (n : Int) ≤ o
  · have HG := hide (show 2 = R by rw [← unhide HQ3, if_pos (.inr (by rw [unhide HL]; exact h7))])
    go_enter Try.func22, Try.ntmps22
    go_wp2_with fail
    go_ret
    exact ⟨ret_int (unhide HG), fin _ (unhide HG)⟩
  obtain ⟨m, rfl⟩ := Int.eq_ofNat_of_zero_le h6'
  have hmn : m < n := by omega
  have HQ4 := hide (by have h := unhide HQ3; rw [if_neg (by rw [unhide HL]; omega)] at h; exact h)
  clear HQ3
  obtain ⟨b, o0, y, rfl, hb, hy, hcy⟩ := at_row (size := 3) (fun x => (rfl : (Ev.cells x).length = 3)) (by omega) (unhide HR) hmn (unhide HL)
  have e0 := hcy 0 _ rfl
  simp only [Nat.add_zero] at e0
  rw [unhide HWX] at e0
  have hyd : es.getD m default = y := by rw [List.getD_eq_getElem?_getD, hy]; rfl
  have HQ5 := hide (by have h := unhide HQ4; rw [show ((m : Int)).toNat = m from rfl, hyd] at h; exact h)
  clear HQ4 hcy hy hyd
  obtain ⟨yk, yw, yo⟩ := y
  dsimp only at e0 HQ5
  have hn8 : (n : Int) ≤ 9223372036854775807 := by omega
  by_cases h8 : yk = 2
  · have HG := hide (show 0 = R by rw [← unhide HQ5, if_neg (by simp [h8])])
    subst h8
    clear HQ5
    go_enter Try.func22, Try.ntmps22
    go_wp2_with fail
    go_ret
    exact ⟨ret_int (unhide HG), fin _ (unhide HG)⟩
  · have HG := hide (show 4 = R by rw [← unhide HQ5, if_pos h8])
    have e8 : (yk != 2) = true := by simp [h8]
    clear HQ5
    go_enter Try.func22, Try.ntmps22
    go_wp2_with fail
    go_ret
    exact ⟨ret_int (unhide HG), fin _ (unhide HG)⟩
end Go.Proofs.Ytickpflebmecpaa
