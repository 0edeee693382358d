/- An argument that is an entry. Conditions: none beyond what the theorem states. -/
import Derived.Test.YthmnfbnaeggknaaRegA
import Derived.OpenShut
import Derived.Carry
namespace Go.Proofs.Ythmnfbnaeggknaa
open Go.RowKit Go.ChangeShapes Go.WideShapes Go.Deep
set_option linter.unusedVariables false
theorem open_entry {H : Type} {enc : TypeId × Value → H} {w : World} {r : Reach} {b0 base : Nat} {spare : Nat → Bool} {held : Bool} {v : Value} {d : DataW H} {ps : List MemPlace}
    (hval : Value.okWide Try.prog w r b0 25 v) (h : DataW.Trod enc Try.prog w base spare held 25 v d ps) : ∃ e : Ent, v = entV e ∧ entWf e := by
  obtain ⟨cs, rfl, hsz⟩ := okWide_struct Try.underlying25 hval
  obtain ⟨n, h⟩ := h
  obtain ⟨hl, ys, _, _, m, hf⟩ := struct_cells Try.underlying25 (by kernel_rfl) (by kernel_rfl) h
  obtain ⟨v0, y0, c0, _, t0⟩ := hf 0 _ rfl
  obtain ⟨v1, y1, c1, _, t1⟩ := hf 1 _ rfl
  obtain ⟨v2, y2, c2, _, t2⟩ := hf 2 _ rfl
  obtain ⟨v3, y3, c3, _, t3⟩ := hf 3 _ rfl
  obtain ⟨v4, y4, c4, _, t4⟩ := hf 4 _ rfl
  obtain ⟨z0, e0, _, w0⟩ := DataW.trod_int Try.underlying3 t0
  obtain ⟨z1, e1, _, w1⟩ := DataW.trod_int Try.underlying3 t1
  obtain ⟨z2, e2, _, w2⟩ := DataW.trod_int Try.underlying3 t2
  obtain ⟨z3, e3, _, w3⟩ := DataW.trod_int Try.underlying3 t3
  obtain ⟨z4, e4, _⟩ := DataW.trod_bool Try.underlying4 t4
  simp at e0 e1 e2 e3 e4
  subst e0 e1 e2 e3 e4
  refine ⟨⟨z0, z1, z2, z3, z4⟩, ?_, w0, w1, w2, w3⟩
  obtain ⟨l⟩ := cs
  have hl' : l.length = 5 := hl
  match l, hl' with
  | [a, b, c, d, e], _ =>
    simp [Value.cells] at c0 c1 c2 c3 c4
    subst c0 c1 c2 c3 c4
    rfl
end Go.Proofs.Ythmnfbnaeggknaa
