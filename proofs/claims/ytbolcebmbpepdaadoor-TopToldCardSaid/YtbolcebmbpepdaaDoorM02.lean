/- Contracts and plain facts, set together by program out of smaller texts. Conditions: none beyond what each theorem states. -/
import Derived.Test.YtbolcebmbpepdaaDoorProg
import Derived.Test.YtbolcebmbpepdaaDoorM01
namespace Go.Proofs.YtbolcebmbpepdaaDoor
set_option linter.unusedVariables false
section
open Go.RowKit
structure Only (D : Nat → Prop) (w w' : World) : Prop where
  os : w'.os = w.os
  tape : w'.tape = w.tape
  output : w'.output = w.output
  size : w.heap.size ≤ w'.heap.size
  block : ∀ k, k < w.heap.size → ¬ D k → w'.heap[k]? = w.heap[k]?
section
variable {D D' : Nat → Prop} {a w w' : World}
theorem Only.refl (D : Nat → Prop) (w : World) : Only D w w := ⟨rfl, rfl, rfl, Nat.le_refl _, fun _ _ _ => rfl⟩
theorem Only.trans (h : Only D a w) (k : Only D' w w') (hD : ∀ x, x < a.heap.size → D' x → D x) : Only D a w' :=
  ⟨k.os.trans h.os, k.tape.trans h.tape, k.output.trans h.output, Nat.le_trans h.size k.size, fun x hx hn => (k.block x (Nat.lt_of_lt_of_le hx h.size) (fun hd => hn (hD x hx hd))).trans (h.block x hx hn)⟩
theorem Only.mono (h : Only D w w') (hD : ∀ x, x < w.heap.size → D x → D' x) : Only D' w w' := ⟨h.os, h.tape, h.output, h.size, fun x hx hn => h.block x hx fun hd => hn (hD x hx hd)⟩
theorem Only.drew (h : Only D a w) : Only D a w.drew := ⟨h.os, h.tape, h.output, h.size, h.block⟩
theorem Only.drewN (h : Only D a w) (n : Nat) : Only D a (w.drewN n) := ⟨h.os, h.tape, h.output, h.size, h.block⟩
theorem Only.alloc (h : Only D a w) (o : Obj) : Only D a (w.alloc o) :=
  ⟨h.os, h.tape, h.output, Nat.le_trans h.size (by simp), fun x hx hn => (Below.heap_alloc w o x (Nat.lt_of_lt_of_le hx h.size)).trans (h.block x hx hn)⟩
theorem Only.setCell (h : Only D a w) {p : Addr} (hp : p.block < a.heap.size → D p.block) (u : Value) : Only D a (w.setCell p u) :=
  ⟨h.os, h.tape, h.output, by simpa [World.setCell] using h.size, fun x hx hn => (Below.heap_setCell w p u x (fun e => hn (e ▸ hp (e ▸ hx)))).trans (h.block x hx hn)⟩
theorem Only.grown (h : Only D a w) {row : Option Nat} (hg : w.grownBy w' row) (hr : ∀ g, row = some g → g < a.heap.size → D g) : Only D a w' :=
  ⟨hg.os.trans h.os, hg.tape.trans h.tape, hg.output.trans h.output, Nat.le_trans h.size hg.size, fun x hx hn => (hg.block x (Nat.lt_of_lt_of_le hx h.size) (fun e => hn (hr x e.symm hx))).trans (h.block x hx hn)⟩
theorem Only.below (h : Only D a w) {B : Nat} (hb : Below B w w') (hB : ∀ x, x < a.heap.size → B ≤ x → D x) : Only D a w' :=
  ⟨hb.os.trans h.os, hb.tape.trans h.tape, hb.output.trans h.output, Nat.le_trans h.size hb.size, fun x hx hn => (hb.block x (Nat.not_le.1 fun e => hn (hB x hx e))).trans (h.block x hx hn)⟩
/-- behind a call that leaves all that was there -/
theorem Only.calm (h : Only D a w) (hb : Below w.heap.size w w') : Only D a w' := h.below hb fun x hx hB => absurd h.size (by omega)
theorem Only.of_below {B : Nat} (hb : Below B w w') (hB : ∀ x, x < w.heap.size → B ≤ x → D x) : Only D w w' := (Only.refl D w).below hb hB
theorem Only.to_below {B : Nat} (h : Only D w w') (hD : ∀ x, x < B → x < w.heap.size → ¬ D x) (hB : B ≤ w.heap.size) : Below B w w' := ⟨h.os, h.tape, h.output, h.size, fun x hx => h.block x (by omega) (hD x hx (by omega))⟩
theorem Below.only {B : Nat} (hb : Below B a w) (h : Only D w w') (hD : ∀ x, x < B → ¬ D x) (hB : B ≤ w.heap.size) : Below B a w' := hb.trans (h.to_below (fun x hx _ => hD x hx) hB)
theorem Blk.only {g : Nat} {t : TypeId} {cs : Array Value} (h : Blk w g t cs) (ho : Only D w w') (hn : ¬ D g) : Blk w' g t cs := (ho.block g h.lt hn).trans h
theorem own_only {base size n : Nat} {e : TypeId} {v : Value} {xs : List Value} (h : w.ownsRow base e size v n xs) (ho : Only D w w') (hn : ∀ g, v.ownBlock = some g → ¬ D g) : w'.ownsRow base e size v n xs := by
  obtain ⟨h1, h2⟩ := h
  refine ⟨h1, ?_⟩
  rcases h2 with h2 | ⟨g, cap, cur, hv, hg, hh, r⟩
  · exact .inl h2
  · refine .inr ⟨g, cap, cur, hv, hg, (ho.block g (Blk.lt (t := e) (cs := cur) hh) (hn g (by rw [hv]; rfl))).trans hh, r⟩
theorem Reads.only {B size n : Nat} {A : Option Addr} {xs : List Value} (h : Reads w B size A n xs) (ho : Only D w w') (hB : B ≤ w.heap.size) (hn : ∀ x, x < B → ¬ D x) : Reads w' B size A n xs :=
  h.keep fun p hp => World.cell?_of_block (ho.block p.block (by omega) (hn _ hp))
end
/-- the cells from 'o' on are those of 'l' -/
def Has (cs : Array Value) (o : Nat) (l : List Value) : Prop := ∀ j u, l[j]? = some u → cs[o + j]? = some u
/-- 'cs' with the cells from 'o' on stored anew -/
def putAt (cs : Array Value) (o : Nat) : List Value → Array Value
  | [] => cs
  | v :: l => putAt (cs.setIfInBounds o v) (o + 1) l
theorem putAt_size (l : List Value) : ∀ (cs : Array Value) (o : Nat), (putAt cs o l).size = cs.size := by
  induction l with
  | nil => intro cs o; rfl
  | cons v l ih => intro cs o; rw [putAt, ih]; simp
theorem putAt_get (l : List Value) : ∀ (cs : Array Value) (o i : Nat), (putAt cs o l)[i]? = if o ≤ i ∧ i < o + l.length ∧ i < cs.size then l[i - o]? else cs[i]? := by
  induction l with
  | nil => intro cs o i; rw [putAt, if_neg (by simp; omega)]
  | cons v l ih =>
    intro cs o i
    rw [putAt, ih, Array.size_setIfInBounds, Array.getElem?_setIfInBounds, List.length_cons]
    by_cases h0 : i = o
    · subst h0
      rw [if_neg (by omega)]
      by_cases hs : i < cs.size
      · rw [if_pos rfl, if_pos hs, if_pos (by omega)]; simp
      · rw [if_pos rfl, if_neg hs, if_neg (by omega)]; simp; omega
    · have e0 : (if o = i then if o < cs.size then some v else none else cs[i]?) = cs[i]? := if_neg (fun e => h0 e.symm)
      rw [e0]
      by_cases h1 : o + 1 ≤ i ∧ i < o + 1 + l.length ∧ i < cs.size
      · rw [if_pos h1, if_pos (by omega), show i - o = (i - (o + 1)) + 1 by omega]; rfl
      · rw [if_neg h1, if_neg (by omega)]
theorem Has.putAt (cs : Array Value) (o : Nat) (l : List Value) (h : o + l.length ≤ cs.size) : Has (putAt cs o l) o l := by
  intro j u hj
  have hl := (List.getElem?_eq_some_iff.1 hj).1
  rw [putAt_get, if_pos (by omega), Nat.add_sub_cancel_left]
  exact hj
theorem Has.le {cs : Array Value} {o : Nat} {l : List Value} (h : Has cs o l) (hl : 0 < l.length) : o + l.length ≤ cs.size := by
  have := h (l.length - 1) _ (List.getElem?_eq_getElem (by omega))
  have := (Array.getElem?_eq_some_iff.1 this).1
  omega
theorem array_ext {a b : Array Value} (h : ∀ i : Nat, a[i]? = b[i]?) : a = b := by
  rw [← Array.toList_inj]
  apply List.ext_getElem?
  intro i
  simpa using h i
theorem putAt_put (cs : Array Value) (o : Nat) (l l' : List Value) (h : l.length = l'.length) : putAt (putAt cs o l) o l' = putAt cs o l' := by
  apply array_ext
  intro i
  rw [putAt_get, putAt_get, putAt_get, putAt_size]
  by_cases h1 : o ≤ i ∧ i < o + l'.length ∧ i < cs.size
  · rw [if_pos h1, if_pos h1]
  · rw [if_neg h1, if_neg (by omega), if_neg h1]
theorem putAt_self (cs : Array Value) (o : Nat) (l : List Value) (h : Has cs o l) : putAt cs o l = cs := by
  apply array_ext
  intro i
  rw [putAt_get]
  split
  · rename_i h1
    have := h (i - o) _ (List.getElem?_eq_getElem (by omega))
    rw [show o + (i - o) = i by omega] at this
    rw [this, List.getElem?_eq_getElem (by omega)]
  · rfl
/-- one cell is stored -/
theorem putAt_one (cs : Array Value) (o j : Nat) (l : List Value) (hl : Has cs o l) (hj : j < l.length) (u : Value) : cs.setIfInBounds (o + j) u = putAt cs o (l.set j u) := by
  apply array_ext
  intro i
  have hle := hl.le (by omega)
  rw [putAt_get, Array.getElem?_setIfInBounds, List.length_set]
  by_cases h0 : o + j = i
  · subst h0
    rw [if_pos rfl, if_pos (by omega), if_pos (by omega), Nat.add_sub_cancel_left, List.getElem?_set_self hj]
  · rw [if_neg h0]
    split
    · rename_i h1
      rw [List.getElem?_set_ne (by omega)]
      have := hl (i - o) _ (List.getElem?_eq_getElem (by omega))
      rw [show o + (i - o) = i by omega] at this
      rw [this, List.getElem?_eq_getElem (by omega)]
    · rfl
theorem Blk.put_ {w : World} {g : Nat} {t : TypeId} {cs : Array Value} (h : Blk w g t cs) {o j : Nat} {l : List Value} (hl : Has cs o l) (hj : j < l.length) (u : Value) : Blk (w.setCell ⟨g, o + j, none⟩ u) g t (putAt cs o (l.set j u)) := by
  have := h.set_ (o + j) u
  rwa [putAt_one cs o j l hl hj u] at this
theorem Blk.at_ {w : World} {g : Nat} {t : TypeId} {cs : Array Value} (h : Blk w g t cs) {o : Nat} {l : List Value} (hl : Has cs o l) (j : Nat) {u : Value} (hj : l[j]? = some u) : w.cell? ⟨g, o + j, none⟩ = some u := (h.cell (o + j)).trans (hl j u hj)
end
section
open Go.RowKit
theorem own_below' {w w' : World} {base size n : Nat} {e : TypeId} {v : Value} {xs : List Value} (h : w.ownsRow base e size v n xs) (hb : Below w.heap.size w w') : w'.ownsRow base e size v n xs := by
  refine World.ownsRow.kept h (only_of_below' hb) ?_
  cases v.ownBlock with
  | none => exact .inl rfl
  | some g => exact .inr (by simp)
where only_of_below' {a w : World} (h : Below a.heap.size a w) : a.grownBy w none := ⟨h.os, h.tape, h.output, h.size, fun i hi _ => h.block i hi⟩
theorem own_mono {w : World} {base base' size n : Nat} {e : TypeId} {v : Value} {xs : List Value} (h : w.ownsRow base e size v n xs) (hb : base' ≤ base) : w.ownsRow base' e size v n xs := by
  refine ⟨h.1, ?_⟩
  rcases h.2 with h2 | ⟨g, cap, cur, h2, h3, h4⟩
  · exact .inl h2
  · exact .inr ⟨g, cap, cur, h2, Nat.le_trans hb h3, h4⟩
theorem own_caps {w : World} {base size n m c : Nat} {A : Option Addr} {e : TypeId} {xs : List Value} (h : w.ownsRow base e size (.slice A m c) n xs) : m = n ∧ n ≤ c ∧ c ≤ maxLen := by
  rcases h.2 with ⟨e1, e2⟩ | ⟨g, cap, cur, e1, _, _, h1, h2, _⟩
  · injection e1 with _ e3 e4; subst e3 e4; exact ⟨by omega, by omega, Nat.zero_le _⟩
  · injection e1 with _ e3 e4; subst e3 e4; exact ⟨rfl, h1, h2⟩
theorem flat_len {α : Type} {cells : α → List Value} {size : Nat} (hs : ∀ x, (cells x).length = size) (l : List α) : (l.flatMap cells).length = l.length * size := by
  induction l with
  | nil => simp
  | cons x l ih => simp [List.flatMap_cons, hs, ih, Nat.succ_mul, Nat.add_comm]
theorem flat_take {α : Type} {cells : α → List Value} {size : Nat} (hs : ∀ x, (cells x).length = size) : ∀ (l : List α) (k : Nat), (l.flatMap cells).take (k * size) = (l.take k).flatMap cells
  | [], k => by simp
  | x :: l, 0 => by simp
  | x :: l, k + 1 => by
    rw [List.flatMap_cons, List.take_succ_cons, List.flatMap_cons, ← flat_take hs l k, Nat.succ_mul, Nat.add_comm, ← hs x, List.take_length_add_append]
theorem flat_drop {α : Type} {cells : α → List Value} {size : Nat} (hs : ∀ x, (cells x).length = size) : ∀ (l : List α) (k : Nat), (l.flatMap cells).drop (k * size) = (l.drop k).flatMap cells
  | [], k => by simp
  | x :: l, 0 => by simp
  | x :: l, k + 1 => by
    rw [List.flatMap_cons, List.drop_succ_cons, ← flat_drop hs l k, Nat.succ_mul, Nat.add_comm, ← hs x, List.drop_length_add_append]
theorem own_take {w : World} {base g n c size k : Nat} {e : TypeId} {xs : List Value} (h : w.ownsRow base e size (.slice (some ⟨g, 0, none⟩) n c) n xs) (hk : k ≤ n) : w.ownsRow base e size (.slice (some ⟨g, 0, none⟩) k c) k (xs.take (k * size)) := by
  have hks : k * size ≤ n * size := Nat.mul_le_mul_right _ hk
  refine ⟨by rw [List.length_take, h.1]; omega, ?_⟩
  rcases h.2 with ⟨h1, _⟩ | ⟨g', cap, cur, h1, hb, hh, h2, h3, h4, h5⟩
  · simp at h1
  · injection h1 with e1 e2 e3
    injection e1 with e1
    injection e1 with e1
    subst e1 e3
    exact .inr ⟨g, c, cur, rfl, hb, hh, by omega, h3, h4, by rw [← h5, List.take_take]; congr 1; omega⟩
theorem own_cells {w : World} {base g n c size : Nat} {e : TypeId} {xs : List Value} (h : w.ownsRow base e size (.slice (some ⟨g, 0, none⟩) n c) n xs) (j : Nat) {u : Value} (hj : xs[j]? = some u) : w.cell? ⟨g, j, none⟩ = some u := by
  have := (h.cells (g := g) rfl) j u hj
  have e : (⟨g, 0, none⟩ : Addr).add j = ⟨g, j, none⟩ := by unfold Addr.add; split <;> simp_all
  rwa [e] at this
theorem only_put {G : Nat} {a w : World} (h : Only (fun k => k = G) a w) (j : Nat) (u : Value) : Only (fun k => k = G) a (w.setCell ⟨G, j, none⟩ u) := h.setCell (fun _ => rfl) u
theorem own_isSome {w : World} {base g n cap size : Nat} {e : TypeId} {xs : List Value} (h : w.ownsRow base e size (.slice (some ⟨g, 0, none⟩) n cap) n xs) (j : Nat) (hj : j < cap * size) : (w.cell? ⟨g, j, none⟩).isSome = true ∧ w.frozen? ⟨g, j, none⟩ = false := by
  rcases h.2 with ⟨h1, _⟩ | ⟨g', cap', cur, h1, _, hb, _, _, hs, _⟩
  · simp at h1
  · injection h1 with e1 e2 e3
    injection e1 with e1
    injection e1 with e1
    subst e1 e3
    have hb' : Blk w g e cur := hb
    exact ⟨by rw [hb'.cell, Array.getElem?_eq_getElem (by omega)]; rfl, hb'.frozen j⟩
theorem flat_set {α : Type} {cells : α → List Value} {size : Nat} (hs : ∀ x, (cells x).length = size) : ∀ (l : List α) (k j : Nat) (x y : α) (u : Value), l[k]? = some x → j < size → (cells x).set j u = cells y → (l.flatMap cells).set (k * size + j) u = (l.set k y).flatMap cells
  | [], k, j, x, y, u, hx, _, _ => by simp at hx
  | z :: l, 0, j, x, y, u, hx, hj, hc => by
    simp at hx
    subst hx
    rw [List.flatMap_cons, List.set_cons_zero, List.flatMap_cons, Nat.zero_mul, Nat.zero_add, List.set_append_left _ _ (by rw [hs]; exact hj), hc]
  | z :: l, k + 1, j, x, y, u, hx, hj, hc => by
    simp at hx
    rw [List.flatMap_cons, List.set_cons_succ, List.flatMap_cons, List.set_append_right _ _ (by rw [hs, Nat.succ_mul]; omega), hs, show (k + 1) * size + j - size = k * size + j by rw [Nat.succ_mul]; omega, flat_set hs l k j x y u hx hj hc]
theorem own_grown_far {w w' : World} {base base' e e' size size' n n' : Nat} {v v' : Value} {xs xs' : List Value} (h : w.ownsRow base e size v n xs) (h' : w.ownsRow base' e' size' v' n' xs') (he : e ≠ e') (hg : w.grownBy w' v'.ownBlock) : w'.ownsRow base e size v n xs :=
  own_only h ((Only.refl _ _).grown hg (D := fun k => v'.ownBlock = some k) (fun g hg _ => hg)) fun g hg hd => by
    rcases own_own_ne h h' he with e1 | e1
    · rw [e1] at hg; cases hg
    · exact e1 (by rw [hg, hd])
end
section
open Go.RowKit
theorem info_of {t : TypeId} {z : Value} {s b : Nat} (h : (Tryd.prog.info? t).map (fun i => (i.zero, i.size, i.bytes)) = some (some z, s, b)) : ∃ i, Tryd.prog.info? t = some i ∧ i.zero = some z ∧ i.size = s ∧ i.bytes = b := by
  cases hi : Tryd.prog.info? t with
  | none => rw [hi] at h; simp at h
  | some i => rw [hi] at h; simp at h; exact ⟨i, rfl, h.1, h.2.1, h.2.2⟩
theorem info_of_cells {t : TypeId} {cs : List Value} {s b : Nat} (h : (Tryd.prog.info? t).map (fun i => (i.zero.map fun z => z.cells.toList, i.size, i.bytes)) = some (some cs, s, b)) : ∃ i, Tryd.prog.info? t = some i ∧ ∃ z, i.zero = some z ∧ z.cells.toList = cs ∧ i.size = s ∧ i.bytes = b := by
  cases hi : Tryd.prog.info? t with
  | none => rw [hi] at h; simp at h
  | some i =>
    rw [hi] at h
    simp only [Option.map_some, Option.some.injEq, Prod.mk.injEq] at h
    obtain ⟨h1, h2, h3⟩ := h
    cases hz : i.zero with
    | none => rw [hz] at h1; cases h1
    | some z => rw [hz] at h1; simp at h1; exact ⟨i, rfl, z, hz, h1, h2, h3⟩
end
section
open Go.RowKit
def nilRow (n : Nat) : Array Value := (List.replicate n (Value.slice none 0 0)).toArray
theorem made_get (z : Array Value) (N i : Nat) (hz : 0 < z.size) (h : i < N) : (madeCells z N)[i]? = z[i % z.size]? := by
  unfold madeCells
  rw [Array.getElem?_map, Array.getElem?_range, if_pos h]
  have := Nat.mod_lt i hz
  simp [this]
theorem made_nil (n : Nat) (z : Array Value) (hc : z.toList = [Value.slice none 0 0]) : madeCells z n = nilRow n := by
  unfold nilRow
  have hs : z.size = 1 := by have := congrArg List.length hc; simpa using this
  apply array_ext
  intro i
  rcases Nat.lt_or_ge i n with h | h
  · have e : z[0]? = z.toList[0]? := by simp
    rw [made_get z _ i (by omega) h, hs, Nat.mod_one, e, hc]
    simp [h]
  · rw [Array.getElem?_eq_none (by rw [size_madeCells]; exact h), Array.getElem?_eq_none (by simpa using h)]
end
end Go.Proofs.YtbolcebmbpepdaaDoor
