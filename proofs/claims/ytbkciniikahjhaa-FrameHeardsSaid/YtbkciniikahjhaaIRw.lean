/- Rows of numbers that came in. Conditions: none beyond what each theorem states. -/
import Derived.Test.YtbkciniikahjhaaProg
import Derived.Test.YtbkciniikahjhaaKit
import Derived.Test.YtbkciniikahjhaaMem
import Derived.Test.YtbkciniikahjhaaOpen
namespace Go.Proofs.Ytbkciniikahjhaa
open Go.RowKit Go.ChangeShapes Go.WideShapes Go.Deep
set_option linter.unusedVariables false

structure IRw where
  A : Option Addr
  n : Nat
  c : Nat
  zs : List Int
def IRw.val (r : IRw) : Value := .slice r.A r.n r.c
def IRw.ok (r : IRw) (w : World) (B : Nat) : Prop := r.zs.length = r.n ∧ r.n ≤ r.c ∧ r.c ≤ maxLen ∧ Reads w B 1 r.A r.n (r.zs.map (.int .i64))
section
variable {w w' : World} {B B' n : Nat} {A : Option Addr} {r : IRw}
theorem IRw.ok.keep (h : r.ok w B) (hk : ∀ p : Addr, p.block < B → w'.cell? p = w.cell? p) : r.ok w' B := ⟨h.1, h.2.1, h.2.2.1, h.2.2.2.keep hk⟩
theorem IRw.ok.below (h : r.ok w B) (hb : Below B w w') : r.ok w' B := h.keep fun _ hp => hb.cell hp
theorem IRw.ok.more (h : r.ok w B) (hB : B ≤ B') : r.ok w B' := ⟨h.1, h.2.1, h.2.2.1, h.2.2.2.more hB⟩
theorem IRw.ok.drewN (h : r.ok w B) (k : Nat) : r.ok (w.drewN k) B := h
theorem IRw.ok.alloc (h : r.ok w B) (hB : B ≤ w.heap.size) (o : Obj) : r.ok (w.alloc o) B := ⟨h.1, h.2.1, h.2.2.1, h.2.2.2.alloc hB o⟩
theorem IRw.ok.setCell (h : r.ok w B) {p : Addr} (hB : B ≤ p.block) (u : Value) : r.ok (w.setCell p u) B := ⟨h.1, h.2.1, h.2.2.1, h.2.2.2.setCell hB u⟩
theorem at_one {xs : List Value} (h : Reads w B 1 A n xs) {k : Nat} (hk : k < n) : ∃ b o u, A = some ⟨b, o, none⟩ ∧ b < B ∧ xs[k]? = some u ∧ w.cell? ⟨b, o + k, none⟩ = some u := by
  obtain ⟨b, o, e, hb, hc⟩ := plain_addr h (by omega) (by omega)
  have hl : k < xs.length := by have := h.1; omega
  exact ⟨b, o, _, e, hb, List.getElem?_eq_getElem hl, hc k _ (List.getElem?_eq_getElem hl)⟩
end

section
variable {H : Type} {enc : TypeId × Value → H} {w : World} {base : Nat} {spare : Nat → Bool} {held : Bool}
theorem open_irow {fuel : Nat} {cs : List Value} {x : DataW H × List MemPlace} (h : DataW.trod enc Try.prog w base spare held fuel 22 cs = some x) : ∃ r : IRw, cs = [r.val] ∧ r.ok w w.heap.size := by
  rcases open_slice Try.underlying22 h with ⟨rfl, _⟩ | ⟨a, len, cap, m, n, D, Pl, rfl, _⟩
  · exact ⟨⟨none, 0, 0, []⟩, rfl, rfl, Nat.le_refl _, Nat.zero_le _, Reads.none_⟩
  · obtain ⟨h1, h2, zs, h3, h4, _⟩ := ints_reads Try.underlying22 Try.underlying3 (by kernel_rfl) h
    exact ⟨⟨some a, len, cap, zs⟩, rfl, h3, h1, h2, h4⟩
end
end Go.Proofs.Ytbkciniikahjhaa
