/- A region that draws its order, whose operations only read and whose callees may make memory, but change nothing that was there: one walk serves every order ('Ext': the worlds that lie behind it). Conditions: none beyond what each theorem states. -/
import Derived.Test.YtcmkcgegdclllaaDoorProg
import Derived.Test.YtcmkcgegdclllaaDoorKit
import Derived.Test.YtcmkcgegdclllaaDoorMem
import Derived.BigQuiet
namespace Go.Proofs.YtcmkcgegdclllaaDoor
open Go.RowKit

/-- a world in which all that 'w' holds lies as it lay -/
structure Ext (w : World) where
  W : World
  h : Below w.heap.size w W
theorem Ext.cell {w : World} (n : Ext w) {p : Addr} {v : Value} (h : w.cell? p = some v) : n.W.cell? p = some v := by
  rw [n.h.cell (Blk_lt_of_cell h)]; exact h
where
  Blk_lt_of_cell {w : World} {p : Addr} {v : Value} (h : w.cell? p = some v) : p.block < w.heap.size := by
    refine Nat.not_le.1 fun hc => ?_
    have : w.heap[p.block]? = none := Array.getElem?_eq_none hc
    unfold World.cell? at h
    simp [this] at h
instance (w : World) : Nonempty (Ext w) := ⟨⟨w, Below.refl _ _⟩⟩
def Ext.on {w : World} (n : Ext w) (m : Ext n.W) : Ext w := ⟨m.W, n.h.trans (m.h.mono n.h.size)⟩
theorem calm_call {P : Program} {f : FuncId} {args : Array Value} {w : World} {n : Ext w} {v : Value}
    (h : Calls P f args n.W fun e w' => e = .returned v ∧ Below n.W.heap.size n.W w') : Calls P f args n.W fun e w'' => e = .returned v ∧ ∃ m : Ext w, w'' = m.W :=
  h.mono fun _ w' ⟨he, hb⟩ => ⟨he, n.on ⟨w', hb⟩, rfl⟩
theorem reads_of_blk {w : World} {g : Nat} {t : TypeId} {cs : List Value} {B : Nat} (h : Blk w g t cs.toArray) (hB : g < B) : Reads w B 1 (some ⟨g, 0, none⟩) cs.length cs := by
  refine ⟨by simp, fun _ => ⟨⟨g, 0, none⟩, rfl, hB, fun j u hj => ?_⟩⟩
  have := h.cell j
  have e : (⟨g, 0, none⟩ : Addr).add j = ⟨g, j, none⟩ := by unfold Addr.add; split <;> simp_all
  rw [e]
  simpa [hj] using this
theorem wp_region_calm {P : Program} {id : Nat} {Q : Exit → Act → World → Prop} {a : Act} {w : World} {l : List Oper} (hm : P.follows .mixedOrders = true) (hB : Region.lexB .any l.toArray = true)
    (h : wpQuiet P l.toArray (fun w' => ∃ n : Ext w, w' = n.W) (fun a' => ∀ w', (∃ n : Ext w, w' = n.W) → Q .normal a' w') l a) : (Code.region id l.toArray true).wp P Q a w :=
  wp_region_quiet (C := fun w' => ∃ n : Ext w, w' = n.W) hm hB ⟨⟨w.drew, (Below.refl _ w).drew⟩, rfl⟩ (by simpa using h)
end Go.Proofs.YtcmkcgegdclllaaDoor
