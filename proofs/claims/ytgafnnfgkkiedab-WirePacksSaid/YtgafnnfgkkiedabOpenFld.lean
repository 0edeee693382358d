/- An argument that is a slice of fields: how it lies in memory. Conditions: none beyond what each theorem states. -/
import Derived.Test.YtgafnnfgkkiedabOpen
import Derived.Test.YtgafnnfgkkiedabWireB
namespace Go.Proofs.Ytgafnnfgkkiedab
open Go.RowKit Go.ChangeShapes Go.WideShapes Go.Deep

theorem open_fields {H : Type} {enc : TypeId × Value → H} {w : World} {base : Nat} {spare : Nat → Bool} {held : Bool} {fuel : Nat} {A : Option Addr} {len cap : Nat} {x : DataW H × List MemPlace}
    (h : DataW.trod enc Try.prog w base spare held fuel 27 [.slice A len cap] = some x) :
    len ≤ cap ∧ cap ≤ maxLen ∧ SliceD x.1 len ∧ ∃ l : List (Int × Int), l.length = len ∧ Reads w w.heap.size 2 A len (l.flatMap fldCells) ∧ ∀ a ∈ l, (Lit.int .i64 a.1).wf = true ∧ (Lit.int .i64 a.2).wf = true := by
  refine rows_reads fldCells _ Try.underlying27 (size := 2) (by kernel_rfl) (by omega) (fun n cs y hy => ?_) h
  obtain ⟨hl, ys, _, _, m, hf⟩ := struct_cells Try.underlying40 (by kernel_rfl) (by kernel_rfl) hy
  obtain ⟨v0, y0, c0, _, t0⟩ := hf 0 _ rfl
  obtain ⟨v1, y1, c1, _, t1⟩ := hf 1 _ rfl
  obtain ⟨z0, e0, _, w0⟩ := DataW.trod_int Try.underlying3 t0
  obtain ⟨z1, e1, _, w1⟩ := DataW.trod_int Try.underlying3 t1
  simp at e0 e1
  subst e0 e1
  refine ⟨hl, (z0, z1), ?_, w0, w1⟩
  match cs, hl with
  | [a, b], _ =>
    simp at c0 c1
    subst c0 c1
    rfl
end Go.Proofs.Ytgafnnfgkkiedab
