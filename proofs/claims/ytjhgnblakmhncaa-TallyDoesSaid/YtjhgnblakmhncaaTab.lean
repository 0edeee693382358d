/- Tables of numbers (slices of slices): how they lie in memory; one that came in. Conditions: none beyond what each theorem states. -/
import Derived.Test.YtjhgnblakmhncaaProg
import Derived.Test.YtjhgnblakmhncaaKit
import Derived.Test.YtjhgnblakmhncaaMem
import Derived.Test.YtjhgnblakmhncaaOpen
namespace Go.Proofs.Ytjhgnblakmhncaa
open Go.RowKit Go.ChangeShapes Go.WideShapes Go.Deep
set_option linter.unusedVariables false

structure IRw where
  A : Option Addr
  n : Nat
  c : Nat
  zs : List Int
def IRw.val (r : IRw) : Value := .slice r.A r.n r.c
def IRw.ok (r : IRw) (w : World) (B : Nat) : Prop := r.zs.length = r.n ∧ r.n ≤ r.c ∧ r.c ≤ maxLen ∧ Reads w B 1 r.A r.n (r.zs.map (.int .i64))
def Tab (w : World) (B : Nat) (A : Option Addr) (n : Nat) (rs : List IRw) : Prop := rs.length = n ∧ Reads w B 1 A n (rs.map IRw.val) ∧ ∀ r ∈ rs, r.ok w B
section
variable {w w' : World} {B B' n : Nat} {A : Option Addr} {r : IRw} {rs : List IRw}
theorem IRw.ok.keep (h : r.ok w B) (hk : ∀ p : Addr, p.block < B → w'.cell? p = w.cell? p) : r.ok w' B := ⟨h.1, h.2.1, h.2.2.1, h.2.2.2.keep hk⟩
theorem IRw.ok.below (h : r.ok w B) (hb : Below B w w') : r.ok w' B := h.keep fun _ hp => hb.cell hp
theorem IRw.ok.more (h : r.ok w B) (hB : B ≤ B') : r.ok w B' := ⟨h.1, h.2.1, h.2.2.1, h.2.2.2.more hB⟩
theorem IRw.ok.drewN (h : r.ok w B) (k : Nat) : r.ok (w.drewN k) B := h
theorem IRw.ok.alloc (h : r.ok w B) (hB : B ≤ w.heap.size) (o : Obj) : r.ok (w.alloc o) B := ⟨h.1, h.2.1, h.2.2.1, h.2.2.2.alloc hB o⟩
theorem IRw.ok.setCell (h : r.ok w B) {p : Addr} (hB : B ≤ p.block) (u : Value) : r.ok (w.setCell p u) B := ⟨h.1, h.2.1, h.2.2.1, h.2.2.2.setCell hB u⟩
theorem Tab.keep (h : Tab w B A n rs) (hk : ∀ p : Addr, p.block < B → w'.cell? p = w.cell? p) : Tab w' B A n rs := ⟨h.1, h.2.1.keep hk, fun r hr => (h.2.2 r hr).keep hk⟩
theorem Tab.below (h : Tab w B A n rs) (hb : Below B w w') : Tab w' B A n rs := h.keep fun _ hp => hb.cell hp
theorem Tab.more (h : Tab w B A n rs) (hB : B ≤ B') : Tab w B' A n rs := ⟨h.1, h.2.1.more hB, fun r hr => (h.2.2 r hr).more hB⟩
theorem Tab.drewN (h : Tab w B A n rs) (k : Nat) : Tab (w.drewN k) B A n rs := h
theorem Tab.alloc (h : Tab w B A n rs) (hB : B ≤ w.heap.size) (o : Obj) : Tab (w.alloc o) B A n rs := h.keep fun p hp => World.cell?_alloc_lt w o p (by omega)
theorem at_one {xs : List Value} (h : Reads w B 1 A n xs) {k : Nat} (hk : k < n) : ∃ b o u, A = some ⟨b, o, none⟩ ∧ b < B ∧ xs[k]? = some u ∧ w.cell? ⟨b, o + k, none⟩ = some u := by
  obtain ⟨b, o, e, hb, hc⟩ := plain_addr h (by omega) (by omega)
  have hl : k < xs.length := by have := h.1; omega
  exact ⟨b, o, _, e, hb, List.getElem?_eq_getElem hl, hc k _ (List.getElem?_eq_getElem hl)⟩
theorem at_tab (h : Tab w B A n rs) {k : Nat} (hk : k < n) : ∃ b o r, A = some ⟨b, o, none⟩ ∧ b < B ∧ rs[k]? = some r ∧ w.cell? ⟨b, o + k, none⟩ = some (.slice r.A r.n r.c) ∧ r.ok w B := by
  obtain ⟨b, o, u, e, hb, hu, hc⟩ := at_one h.2.1 hk
  rw [List.getElem?_map] at hu
  cases hr : rs[k]? with
  | none => rw [hr] at hu; cases hu
  | some r =>
    rw [hr] at hu
    injection hu with hu
    exact ⟨b, o, r, e, hb, rfl, by rw [hc, ← hu]; rfl, h.2.2 r (List.mem_of_getElem? hr)⟩
end

section
variable {H : Type} {enc : TypeId × Value → H} {w : World} {base : Nat} {spare : Nat → Bool} {held : Bool}
theorem open_irow {fuel : Nat} {cs : List Value} {x : DataW H × List MemPlace} (h : DataW.trod enc Try.prog w base spare held fuel 23 cs = some x) : ∃ r : IRw, cs = [r.val] ∧ r.ok w w.heap.size := by
  rcases open_slice Try.underlying23 h with ⟨rfl, _⟩ | ⟨a, len, cap, m, n, D, Pl, rfl, _⟩
  · exact ⟨⟨none, 0, 0, []⟩, rfl, rfl, Nat.le_refl _, Nat.zero_le _, Reads.none_⟩
  · obtain ⟨h1, h2, zs, h3, h4, _⟩ := ints_reads Try.underlying23 Try.underlying3 (by kernel_rfl) h
    exact ⟨⟨some a, len, cap, zs⟩, rfl, h3, h1, h2, h4⟩
theorem open_table {fuel : Nat} {A : Option Addr} {len cap : Nat} {x : DataW H × List MemPlace} (h : DataW.trod enc Try.prog w base spare held fuel 22 [.slice A len cap] = some x) :
    len ≤ cap ∧ cap ≤ maxLen ∧ SliceD x.1 len ∧ ∃ rs : List IRw, Tab w w.heap.size A len rs := by
  obtain ⟨h1, h2, h3, rs, hl, hr, hg⟩ := rows_reads (fun r : IRw => [r.val]) (fun r => r.ok w w.heap.size) Try.underlying22 (size := 1) (by kernel_rfl) (by omega)
    (fun n cs y hy => by obtain ⟨r, rfl, hr⟩ := open_irow hy; exact ⟨rfl, r, rfl, hr⟩) h
  refine ⟨h1, h2, h3, rs, hl, ?_, hg⟩
  have e : rs.flatMap (fun r : IRw => [r.val]) = rs.map IRw.val := by rw [List.flatMap_def]; exact flatten_single _ _
  rwa [e] at hr
end
end Go.Proofs.Ytjhgnblakmhncaa
