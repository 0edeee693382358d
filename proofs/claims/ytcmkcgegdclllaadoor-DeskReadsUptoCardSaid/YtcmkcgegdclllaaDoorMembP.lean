/- The members of a label, plainly. Conditions: none beyond what each theorem states. -/
import Derived.Test.YtcmkcgegdclllaaDoorMem
namespace Go.Proofs.YtcmkcgegdclllaaDoor
open Go.RowKit
set_option linter.unusedVariables false

def memL (x : Nat) : List Int := ((List.range 8).filter x.testBit).map Int.ofNat
def memTo (x k : Nat) : List Int := ((List.range k).filter x.testBit).map Int.ofNat
/-- the place of the lowest bit -/
def lowB (x : Nat) : Nat := ((List.range 8).find? x.testBit).getD 0
theorem memTo_succ (x k : Nat) : memTo x (k + 1) = memTo x k ++ (if x.testBit k then [(k : Int)] else []) := by
  unfold memTo
  rw [List.range_succ, List.filter_append, List.map_append]
  by_cases h : x.testBit k <;> simp [h]
theorem memL_zero : memL 0 = [] := by simp [memL]
set_option maxRecDepth 100000 in
theorem memL_step_all : ∀ x : Fin 256, x.val ≠ 0 → memL x.val = (lowB x.val : Int) :: memL (x.val &&& (x.val - 1)) := by decide +kernel
theorem memL_step (x : Nat) (h : x ≤ 255) (h0 : x ≠ 0) : memL x = (lowB x : Int) :: memL (x &&& (x - 1)) := memL_step_all ⟨x, by omega⟩ h0
theorem and_pred_lt (x : Nat) (h0 : x ≠ 0) : x &&& (x - 1) < x := Nat.lt_of_le_of_lt Nat.and_le_right (by omega)
/-- the table's index: x and -x in 64 bits, times de Bruijn's number, its six upper bits -/
def bruijnAt (x : Nat) : Nat := ((x &&& (18446744073709551616 - x)) * 285870213051353865 % 18446744073709551616) / 288230376151711744
def bruijnTab : List Nat := [0, 1, 56, 2, 57, 49, 28, 3, 61, 58, 42, 50, 38, 29, 17, 4, 62, 47, 59, 36, 45, 43, 51, 22, 53, 39, 33, 30, 24, 18, 12, 5, 63, 55, 48, 27, 60, 41, 37, 16, 46, 35, 44, 21, 52, 32, 23, 11, 54, 26, 40, 15, 34, 20, 31, 10, 25, 14, 19, 9, 13, 8, 7, 6]
set_option maxRecDepth 100000 in
theorem bruijn_all : ∀ x : Fin 256, x.val ≠ 0 → bruijnTab[bruijnAt x.val]? = some (lowB x.val) := by decide +kernel
end Go.Proofs.YtcmkcgegdclllaaDoor
