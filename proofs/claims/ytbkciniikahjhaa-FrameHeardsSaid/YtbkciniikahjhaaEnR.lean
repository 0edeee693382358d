/- Rows of entries, and tables of them, as they lie in memory. Conditions: none beyond what each theorem states. -/
import Derived.Test.YtbkciniikahjhaaRegA
namespace Go.Proofs.Ytbkciniikahjhaa
open Go.RowKit
set_option linter.unusedVariables false

/-- the entries of a label, and where they lie -/
structure EnR where
  es : List Ent
  A : Option Addr
  c : Nat
def EnR.val (r : EnR) : Value := .slice r.A r.es.length r.c
def EnR.nil : EnR := ⟨[], none, 0⟩
structure TabR where
  rs : List EnR
  A : Option Addr
  c : Nat
def TabR.val (t : TabR) : Value := .slice t.A t.rs.length t.c
def TabRd (w : World) (B : Nat) (t : TabR) : Prop := Reads w B 1 t.A t.rs.length (t.rs.map EnR.val) ∧ ∀ r ∈ t.rs, Reads w B 5 r.A r.es.length (r.es.flatMap entCells)
theorem TabRd.below {w w' : World} {B : Nat} {t : TabR} (h : TabRd w B t) (hb : Below B w w') : TabRd w' B t := ⟨h.1.below hb, fun r hr => (h.2 r hr).below hb⟩
theorem TabRd.more {w : World} {B B' : Nat} {t : TabR} (h : TabRd w B t) (hb : B ≤ B') : TabRd w B' t := ⟨h.1.more hb, fun r hr => (h.2 r hr).more hb⟩
theorem val_at {α : Type} (f : α → Value) {w : World} {B n : Nat} {A : Option Addr} {l : List α} (h : Reads w B 1 A n (l.map f)) {k : Nat} (hk : k < n) : ∃ b o x, A = some ⟨b, o, none⟩ ∧ b < B ∧ l[k]? = some x ∧ w.cell? ⟨b, o + k, none⟩ = some (f x) := by
  have hl : l.length = n := by have := h.1; rw [List.length_map] at this; omega
  rw [show l.map f = l.flatMap fun x => [f x] by rw [List.map_eq_flatMap]] at h
  obtain ⟨b, o, x, e, hb, hx, hc⟩ := at_row (cells := fun x => [f x]) (size := 1) (fun _ => rfl) Nat.one_pos h hk hl
  have := hc 0 _ rfl
  simp only [Nat.mul_one, Nat.add_zero] at this
  exact ⟨b, o, x, e, hb, hx, this⟩
end Go.Proofs.Ytbkciniikahjhaa
