/- Tables of numbers (slices of slices): how they lie in memory; one that came in. Conditions: none beyond what each theorem states. -/
import Derived.Test.YtickpflebmecpaaProg
import Derived.Test.YtickpflebmecpaaKit
import Derived.Test.YtickpflebmecpaaMem
import Derived.Test.YtickpflebmecpaaOpen
import Derived.Test.YtickpflebmecpaaIRw
namespace Go.Proofs.Ytickpflebmecpaa
open Go.RowKit Go.ChangeShapes Go.WideShapes Go.Deep
set_option linter.unusedVariables false

def Tab (w : World) (B : Nat) (A : Option Addr) (n : Nat) (rs : List IRw) : Prop := rs.length = n ∧ Reads w B 1 A n (rs.map IRw.val) ∧ ∀ r ∈ rs, r.ok w B
section
variable {w w' : World} {B B' n : Nat} {A : Option Addr} {r : IRw} {rs : List IRw}
theorem Tab.keep (h : Tab w B A n rs) (hk : ∀ p : Addr, p.block < B → w'.cell? p = w.cell? p) : Tab w' B A n rs := ⟨h.1, h.2.1.keep hk, fun r hr => (h.2.2 r hr).keep hk⟩
theorem Tab.below (h : Tab w B A n rs) (hb : Below B w w') : Tab w' B A n rs := h.keep fun _ hp => hb.cell hp
theorem Tab.more (h : Tab w B A n rs) (hB : B ≤ B') : Tab w B' A n rs := ⟨h.1, h.2.1.more hB, fun r hr => (h.2.2 r hr).more hB⟩
theorem Tab.drewN (h : Tab w B A n rs) (k : Nat) : Tab (w.drewN k) B A n rs := h
theorem Tab.alloc (h : Tab w B A n rs) (hB : B ≤ w.heap.size) (o : Obj) : Tab (w.alloc o) B A n rs := h.keep fun p hp => World.cell?_alloc_lt w o p (by omega)
theorem at_tab (h : Tab w B A n rs) {k : Nat} (hk : k < n) : ∃ b o r, A = some ⟨b, o, none⟩ ∧ b < B ∧ rs[k]? = some r ∧ w.cell? ⟨b, o + k, none⟩ = some (.slice r.A r.n r.c) ∧ r.ok w B := by
  obtain ⟨b, o, u, e, hb, hu, hc⟩ := at_one h.2.1 hk
  rw [List.getElem?_map] at hu
  cases hr : rs[k]? with
  | none => rw [hr] at hu; cases hu
  | some r =>
    rw [hr] at hu
    injection hu with hu
    exact ⟨b, o, r, e, hb, rfl, by rw [hc, ← hu]; rfl, h.2.2 r (List.mem_of_getElem? hr)⟩
end

section
variable {H : Type} {enc : TypeId × Value → H} {w : World} {base : Nat} {spare : Nat → Bool} {held : Bool}
theorem open_table {fuel : Nat} {A : Option Addr} {len cap : Nat} {x : DataW H × List MemPlace} (h : DataW.trod enc Try.prog w base spare held fuel 31 [.slice A len cap] = some x) :
    len ≤ cap ∧ cap ≤ maxLen ∧ SliceD x.1 len ∧ ∃ rs : List IRw, Tab w w.heap.size A len rs := by
  obtain ⟨h1, h2, h3, rs, hl, hr, hg⟩ := rows_reads (fun r : IRw => [r.val]) (fun r => r.ok w w.heap.size) Try.underlying31 (size := 1) (by kernel_rfl) (by omega)
    (fun n cs y hy => by obtain ⟨r, rfl, hr⟩ := open_irow hy; exact ⟨rfl, r, rfl, hr⟩) h
  refine ⟨h1, h2, h3, rs, hl, ?_, hg⟩
  have e : rs.flatMap (fun r : IRw => [r.val]) = rs.map IRw.val := by rw [List.flatMap_def]; exact flatten_single _ _
  rwa [e] at hr
end
end Go.Proofs.Ytickpflebmecpaa
