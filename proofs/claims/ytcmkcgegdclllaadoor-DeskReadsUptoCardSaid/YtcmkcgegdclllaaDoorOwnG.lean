/- Rows of the call's own: small laws. Conditions: none beyond what each theorem states. -/
import Derived.Test.YtcmkcgegdclllaaDoorOnly
namespace Go.Proofs.YtcmkcgegdclllaaDoor
open Go.RowKit
set_option linter.unusedVariables false

theorem own_below' {w w' : World} {base size n : Nat} {e : TypeId} {v : Value} {xs : List Value} (h : w.ownsRow base e size v n xs) (hb : Below w.heap.size w w') : w'.ownsRow base e size v n xs := by
  refine World.ownsRow.kept h (only_of_below' hb) ?_
  cases v.ownBlock with
  | none => exact .inl rfl
  | some g => exact .inr (by simp)
where only_of_below' {a w : World} (h : Below a.heap.size a w) : a.grownBy w none := ⟨h.os, h.tape, h.output, h.size, fun i hi _ => h.block i hi⟩
theorem own_mono {w : World} {base base' size n : Nat} {e : TypeId} {v : Value} {xs : List Value} (h : w.ownsRow base e size v n xs) (hb : base' ≤ base) : w.ownsRow base' e size v n xs := by
  refine ⟨h.1, ?_⟩
  rcases h.2 with h2 | ⟨g, cap, cur, h2, h3, h4⟩
  · exact .inl h2
  · exact .inr ⟨g, cap, cur, h2, Nat.le_trans hb h3, h4⟩
theorem own_caps {w : World} {base size n m c : Nat} {A : Option Addr} {e : TypeId} {xs : List Value} (h : w.ownsRow base e size (.slice A m c) n xs) : m = n ∧ n ≤ c ∧ c ≤ maxLen := by
  rcases h.2 with ⟨e1, e2⟩ | ⟨g, cap, cur, e1, _, _, h1, h2, _⟩
  · injection e1 with _ e3 e4; subst e3 e4; exact ⟨by omega, by omega, Nat.zero_le _⟩
  · injection e1 with _ e3 e4; subst e3 e4; exact ⟨rfl, h1, h2⟩
theorem flat_len {α : Type} {cells : α → List Value} {size : Nat} (hs : ∀ x, (cells x).length = size) (l : List α) : (l.flatMap cells).length = l.length * size := by
  induction l with
  | nil => simp
  | cons x l ih => simp [List.flatMap_cons, hs, ih, Nat.succ_mul, Nat.add_comm]
theorem flat_take {α : Type} {cells : α → List Value} {size : Nat} (hs : ∀ x, (cells x).length = size) : ∀ (l : List α) (k : Nat), (l.flatMap cells).take (k * size) = (l.take k).flatMap cells
  | [], k => by simp
  | x :: l, 0 => by simp
  | x :: l, k + 1 => by
    rw [List.flatMap_cons, List.take_succ_cons, List.flatMap_cons, ← flat_take hs l k, Nat.succ_mul, Nat.add_comm, ← hs x, List.take_length_add_append]
theorem flat_drop {α : Type} {cells : α → List Value} {size : Nat} (hs : ∀ x, (cells x).length = size) : ∀ (l : List α) (k : Nat), (l.flatMap cells).drop (k * size) = (l.drop k).flatMap cells
  | [], k => by simp
  | x :: l, 0 => by simp
  | x :: l, k + 1 => by
    rw [List.flatMap_cons, List.drop_succ_cons, ← flat_drop hs l k, Nat.succ_mul, Nat.add_comm, ← hs x, List.drop_length_add_append]
theorem own_take {w : World} {base g n c size k : Nat} {e : TypeId} {xs : List Value} (h : w.ownsRow base e size (.slice (some ⟨g, 0, none⟩) n c) n xs) (hk : k ≤ n) : w.ownsRow base e size (.slice (some ⟨g, 0, none⟩) k c) k (xs.take (k * size)) := by
  have hks : k * size ≤ n * size := Nat.mul_le_mul_right _ hk
  refine ⟨by rw [List.length_take, h.1]; omega, ?_⟩
  rcases h.2 with ⟨h1, _⟩ | ⟨g', cap, cur, h1, hb, hh, h2, h3, h4, h5⟩
  · simp at h1
  · injection h1 with e1 e2 e3
    injection e1 with e1
    injection e1 with e1
    subst e1 e3
    exact .inr ⟨g, c, cur, rfl, hb, hh, by omega, h3, h4, by rw [← h5, List.take_take]; congr 1; omega⟩
theorem own_cells {w : World} {base g n c size : Nat} {e : TypeId} {xs : List Value} (h : w.ownsRow base e size (.slice (some ⟨g, 0, none⟩) n c) n xs) (j : Nat) {u : Value} (hj : xs[j]? = some u) : w.cell? ⟨g, j, none⟩ = some u := by
  have := (h.cells (g := g) rfl) j u hj
  have e : (⟨g, 0, none⟩ : Addr).add j = ⟨g, j, none⟩ := by unfold Addr.add; split <;> simp_all
  rwa [e] at this
theorem only_put {G : Nat} {a w : World} (h : Only (fun k => k = G) a w) (j : Nat) (u : Value) : Only (fun k => k = G) a (w.setCell ⟨G, j, none⟩ u) := h.setCell (fun _ => rfl) u
theorem own_isSome {w : World} {base g n cap size : Nat} {e : TypeId} {xs : List Value} (h : w.ownsRow base e size (.slice (some ⟨g, 0, none⟩) n cap) n xs) (j : Nat) (hj : j < cap * size) : (w.cell? ⟨g, j, none⟩).isSome = true ∧ w.frozen? ⟨g, j, none⟩ = false := by
  rcases h.2 with ⟨h1, _⟩ | ⟨g', cap', cur, h1, _, hb, _, _, hs, _⟩
  · simp at h1
  · injection h1 with e1 e2 e3
    injection e1 with e1
    injection e1 with e1
    subst e1 e3
    have hb' : Blk w g e cur := hb
    exact ⟨by rw [hb'.cell, Array.getElem?_eq_getElem (by omega)]; rfl, hb'.frozen j⟩

theorem flat_set {α : Type} {cells : α → List Value} {size : Nat} (hs : ∀ x, (cells x).length = size) : ∀ (l : List α) (k j : Nat) (x y : α) (u : Value), l[k]? = some x → j < size → (cells x).set j u = cells y → (l.flatMap cells).set (k * size + j) u = (l.set k y).flatMap cells
  | [], k, j, x, y, u, hx, _, _ => by simp at hx
  | z :: l, 0, j, x, y, u, hx, hj, hc => by
    simp at hx
    subst hx
    rw [List.flatMap_cons, List.set_cons_zero, List.flatMap_cons, Nat.zero_mul, Nat.zero_add, List.set_append_left _ _ (by rw [hs]; exact hj), hc]
  | z :: l, k + 1, j, x, y, u, hx, hj, hc => by
    simp at hx
    rw [List.flatMap_cons, List.set_cons_succ, List.flatMap_cons, List.set_append_right _ _ (by rw [hs, Nat.succ_mul]; omega), hs, show (k + 1) * size + j - size = k * size + j by rw [Nat.succ_mul]; omega, flat_set hs l k j x y u hx hj hc]
theorem own_grown_far {w w' : World} {base base' e e' size size' n n' : Nat} {v v' : Value} {xs xs' : List Value} (h : w.ownsRow base e size v n xs) (h' : w.ownsRow base' e' size' v' n' xs') (he : e ≠ e') (hg : w.grownBy w' v'.ownBlock) : w'.ownsRow base e size v n xs :=
  own_only h ((Only.refl _ _).grown hg (D := fun k => v'.ownBlock = some k) (fun g hg _ => hg)) fun g hg hd => by
    rcases own_own_ne h h' he with e1 | e1
    · rw [e1] at hg; cases hg
    · exact e1 (by rw [hg, hd])
end Go.Proofs.YtcmkcgegdclllaaDoor
