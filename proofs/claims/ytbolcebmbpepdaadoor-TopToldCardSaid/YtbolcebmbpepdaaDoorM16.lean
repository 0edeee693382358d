/- Contracts and plain facts, set together by program out of smaller texts. Conditions: none beyond what each theorem states. -/
import Derived.Test.YtbolcebmbpepdaaDoorProg
import Derived.Test.YtbolcebmbpepdaaDoorM15
import Derived.Test.YtbolcebmbpepdaaDoorM03
import Derived.Test.YtbolcebmbpepdaaDoorM01
import Derived.Test.YtbolcebmbpepdaaDoorM14
namespace Go.Proofs.YtbolcebmbpepdaaDoor
set_option linter.unusedVariables false
section
open Go.RowKit
/-- the entries of a label, and where they lie -/
structure EnR where
  es : List Ent
  A : Option Addr
  c : Nat
def EnR.val (r : EnR) : Value := .slice r.A r.es.length r.c
def EnR.nil : EnR := ⟨[], none, 0⟩
structure TabR where
  rs : List EnR
  A : Option Addr
  c : Nat
def TabR.val (t : TabR) : Value := .slice t.A t.rs.length t.c
def TabRd (w : World) (B : Nat) (t : TabR) : Prop := Reads w B 1 t.A t.rs.length (t.rs.map EnR.val) ∧ ∀ r ∈ t.rs, Reads w B 5 r.A r.es.length (r.es.flatMap entCells)
theorem TabRd.below {w w' : World} {B : Nat} {t : TabR} (h : TabRd w B t) (hb : Below B w w') : TabRd w' B t := ⟨h.1.below hb, fun r hr => (h.2 r hr).below hb⟩
theorem TabRd.more {w : World} {B B' : Nat} {t : TabR} (h : TabRd w B t) (hb : B ≤ B') : TabRd w B' t := ⟨h.1.more hb, fun r hr => (h.2 r hr).more hb⟩
theorem val_at {α : Type} (f : α → Value) {w : World} {B n : Nat} {A : Option Addr} {l : List α} (h : Reads w B 1 A n (l.map f)) {k : Nat} (hk : k < n) : ∃ b o x, A = some ⟨b, o, none⟩ ∧ b < B ∧ l[k]? = some x ∧ w.cell? ⟨b, o + k, none⟩ = some (f x) := by
  have hl : l.length = n := by have := h.1; rw [List.length_map] at this; omega
  rw [show l.map f = l.flatMap fun x => [f x] by rw [List.map_eq_flatMap]] at h
  obtain ⟨b, o, x, e, hb, hx, hc⟩ := at_row (cells := fun x => [f x]) (size := 1) (fun _ => rfl) Nat.one_pos h hk hl
  have := hc 0 _ rfl
  simp only [Nat.mul_one, Nat.add_zero] at this
  exact ⟨b, o, x, e, hb, hx, this⟩
end
section
open Go.RowKit Go.ChangeShapes Go.WideShapes Go.Deep
structure IRw where
  A : Option Addr
  n : Nat
  c : Nat
  zs : List Int
def IRw.val (r : IRw) : Value := .slice r.A r.n r.c
def IRw.ok (r : IRw) (w : World) (B : Nat) : Prop := r.zs.length = r.n ∧ r.n ≤ r.c ∧ r.c ≤ maxLen ∧ Reads w B 1 r.A r.n (r.zs.map (.int .i64))
section
variable {w w' : World} {B B' n : Nat} {A : Option Addr} {r : IRw}
theorem IRw.ok.keep (h : r.ok w B) (hk : ∀ p : Addr, p.block < B → w'.cell? p = w.cell? p) : r.ok w' B := ⟨h.1, h.2.1, h.2.2.1, h.2.2.2.keep hk⟩
theorem IRw.ok.below (h : r.ok w B) (hb : Below B w w') : r.ok w' B := h.keep fun _ hp => hb.cell hp
theorem IRw.ok.more (h : r.ok w B) (hB : B ≤ B') : r.ok w B' := ⟨h.1, h.2.1, h.2.2.1, h.2.2.2.more hB⟩
theorem IRw.ok.drewN (h : r.ok w B) (k : Nat) : r.ok (w.drewN k) B := h
theorem IRw.ok.alloc (h : r.ok w B) (hB : B ≤ w.heap.size) (o : Obj) : r.ok (w.alloc o) B := ⟨h.1, h.2.1, h.2.2.1, h.2.2.2.alloc hB o⟩
theorem IRw.ok.setCell (h : r.ok w B) {p : Addr} (hB : B ≤ p.block) (u : Value) : r.ok (w.setCell p u) B := ⟨h.1, h.2.1, h.2.2.1, h.2.2.2.setCell hB u⟩
end
end
end Go.Proofs.YtbolcebmbpepdaaDoor
