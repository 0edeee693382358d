/- Frames of several blocks: 'Only D w w'': outside the blocks of D the world w' is as w was. Conditions: none beyond what each theorem states. -/
import Derived.Test.YtcmkcgegdclllaaDoorMem
namespace Go.Proofs.YtcmkcgegdclllaaDoor
open Go.RowKit
set_option linter.unusedVariables false

structure Only (D : Nat → Prop) (w w' : World) : Prop where
  os : w'.os = w.os
  tape : w'.tape = w.tape
  output : w'.output = w.output
  size : w.heap.size ≤ w'.heap.size
  block : ∀ k, k < w.heap.size → ¬ D k → w'.heap[k]? = w.heap[k]?
section
variable {D D' : Nat → Prop} {a w w' : World}
theorem Only.refl (D : Nat → Prop) (w : World) : Only D w w := ⟨rfl, rfl, rfl, Nat.le_refl _, fun _ _ _ => rfl⟩
theorem Only.trans (h : Only D a w) (k : Only D' w w') (hD : ∀ x, x < a.heap.size → D' x → D x) : Only D a w' :=
  ⟨k.os.trans h.os, k.tape.trans h.tape, k.output.trans h.output, Nat.le_trans h.size k.size, fun x hx hn => (k.block x (Nat.lt_of_lt_of_le hx h.size) (fun hd => hn (hD x hx hd))).trans (h.block x hx hn)⟩
theorem Only.mono (h : Only D w w') (hD : ∀ x, x < w.heap.size → D x → D' x) : Only D' w w' := ⟨h.os, h.tape, h.output, h.size, fun x hx hn => h.block x hx fun hd => hn (hD x hx hd)⟩
theorem Only.drew (h : Only D a w) : Only D a w.drew := ⟨h.os, h.tape, h.output, h.size, h.block⟩
theorem Only.drewN (h : Only D a w) (n : Nat) : Only D a (w.drewN n) := ⟨h.os, h.tape, h.output, h.size, h.block⟩
theorem Only.alloc (h : Only D a w) (o : Obj) : Only D a (w.alloc o) :=
  ⟨h.os, h.tape, h.output, Nat.le_trans h.size (by simp), fun x hx hn => (Below.heap_alloc w o x (Nat.lt_of_lt_of_le hx h.size)).trans (h.block x hx hn)⟩
theorem Only.setCell (h : Only D a w) {p : Addr} (hp : p.block < a.heap.size → D p.block) (u : Value) : Only D a (w.setCell p u) :=
  ⟨h.os, h.tape, h.output, by simpa [World.setCell] using h.size, fun x hx hn => (Below.heap_setCell w p u x (fun e => hn (e ▸ hp (e ▸ hx)))).trans (h.block x hx hn)⟩
theorem Only.grown (h : Only D a w) {row : Option Nat} (hg : w.grownBy w' row) (hr : ∀ g, row = some g → g < a.heap.size → D g) : Only D a w' :=
  ⟨hg.os.trans h.os, hg.tape.trans h.tape, hg.output.trans h.output, Nat.le_trans h.size hg.size, fun x hx hn => (hg.block x (Nat.lt_of_lt_of_le hx h.size) (fun e => hn (hr x e.symm hx))).trans (h.block x hx hn)⟩
theorem Only.below (h : Only D a w) {B : Nat} (hb : Below B w w') (hB : ∀ x, x < a.heap.size → B ≤ x → D x) : Only D a w' :=
  ⟨hb.os.trans h.os, hb.tape.trans h.tape, hb.output.trans h.output, Nat.le_trans h.size hb.size, fun x hx hn => (hb.block x (Nat.not_le.1 fun e => hn (hB x hx e))).trans (h.block x hx hn)⟩
/-- behind a call that leaves all that was there -/
theorem Only.calm (h : Only D a w) (hb : Below w.heap.size w w') : Only D a w' := h.below hb fun x hx hB => absurd h.size (by omega)
theorem Only.of_below {B : Nat} (hb : Below B w w') (hB : ∀ x, x < w.heap.size → B ≤ x → D x) : Only D w w' := (Only.refl D w).below hb hB
theorem Only.to_below {B : Nat} (h : Only D w w') (hD : ∀ x, x < B → x < w.heap.size → ¬ D x) (hB : B ≤ w.heap.size) : Below B w w' := ⟨h.os, h.tape, h.output, h.size, fun x hx => h.block x (by omega) (hD x hx (by omega))⟩
theorem Below.only {B : Nat} (hb : Below B a w) (h : Only D w w') (hD : ∀ x, x < B → ¬ D x) (hB : B ≤ w.heap.size) : Below B a w' := hb.trans (h.to_below (fun x hx _ => hD x hx) hB)
theorem Blk.only {g : Nat} {t : TypeId} {cs : Array Value} (h : Blk w g t cs) (ho : Only D w w') (hn : ¬ D g) : Blk w' g t cs := (ho.block g h.lt hn).trans h
theorem own_only {base size n : Nat} {e : TypeId} {v : Value} {xs : List Value} (h : w.ownsRow base e size v n xs) (ho : Only D w w') (hn : ∀ g, v.ownBlock = some g → ¬ D g) : w'.ownsRow base e size v n xs := by
  obtain ⟨h1, h2⟩ := h
  refine ⟨h1, ?_⟩
  rcases h2 with h2 | ⟨g, cap, cur, hv, hg, hh, r⟩
  · exact .inl h2
  · refine .inr ⟨g, cap, cur, hv, hg, (ho.block g (Blk.lt (t := e) (cs := cur) hh) (hn g (by rw [hv]; rfl))).trans hh, r⟩
theorem Reads.only {B size n : Nat} {A : Option Addr} {xs : List Value} (h : Reads w B size A n xs) (ho : Only D w w') (hB : B ≤ w.heap.size) (hn : ∀ x, x < B → ¬ D x) : Reads w' B size A n xs :=
  h.keep fun p hp => World.cell?_of_block (ho.block p.block (by omega) (hn _ hp))
end

/-! ### A block that is known whole, with some cells stored anew -/
/-- the cells from 'o' on are those of 'l' -/
def Has (cs : Array Value) (o : Nat) (l : List Value) : Prop := ∀ j u, l[j]? = some u → cs[o + j]? = some u
/-- 'cs' with the cells from 'o' on stored anew -/
def putAt (cs : Array Value) (o : Nat) : List Value → Array Value
  | [] => cs
  | v :: l => putAt (cs.setIfInBounds o v) (o + 1) l
theorem putAt_size (l : List Value) : ∀ (cs : Array Value) (o : Nat), (putAt cs o l).size = cs.size := by
  induction l with
  | nil => intro cs o; rfl
  | cons v l ih => intro cs o; rw [putAt, ih]; simp
theorem putAt_get (l : List Value) : ∀ (cs : Array Value) (o i : Nat), (putAt cs o l)[i]? = if o ≤ i ∧ i < o + l.length ∧ i < cs.size then l[i - o]? else cs[i]? := by
  induction l with
  | nil => intro cs o i; rw [putAt, if_neg (by simp; omega)]
  | cons v l ih =>
    intro cs o i
    rw [putAt, ih, Array.size_setIfInBounds, Array.getElem?_setIfInBounds, List.length_cons]
    by_cases h0 : i = o
    · subst h0
      rw [if_neg (by omega)]
      by_cases hs : i < cs.size
      · rw [if_pos rfl, if_pos hs, if_pos (by omega)]; simp
      · rw [if_pos rfl, if_neg hs, if_neg (by omega)]; simp; omega
    · have e0 : (if o = i then if o < cs.size then some v else none else cs[i]?) = cs[i]? := if_neg (fun e => h0 e.symm)
      rw [e0]
      by_cases h1 : o + 1 ≤ i ∧ i < o + 1 + l.length ∧ i < cs.size
      · rw [if_pos h1, if_pos (by omega), show i - o = (i - (o + 1)) + 1 by omega]; rfl
      · rw [if_neg h1, if_neg (by omega)]
theorem Has.putAt (cs : Array Value) (o : Nat) (l : List Value) (h : o + l.length ≤ cs.size) : Has (putAt cs o l) o l := by
  intro j u hj
  have hl := (List.getElem?_eq_some_iff.1 hj).1
  rw [putAt_get, if_pos (by omega), Nat.add_sub_cancel_left]
  exact hj
theorem Has.get {cs : Array Value} {o : Nat} {l : List Value} (h : Has cs o l) (j : Nat) {u : Value} (hj : l[j]? = some u) : cs[o + j]? = some u := h j u hj
theorem Has.le {cs : Array Value} {o : Nat} {l : List Value} (h : Has cs o l) (hl : 0 < l.length) : o + l.length ≤ cs.size := by
  have := h (l.length - 1) _ (List.getElem?_eq_getElem (by omega))
  have := (Array.getElem?_eq_some_iff.1 this).1
  omega
theorem array_ext {a b : Array Value} (h : ∀ i : Nat, a[i]? = b[i]?) : a = b := by
  rw [← Array.toList_inj]
  apply List.ext_getElem?
  intro i
  simpa using h i
theorem putAt_put (cs : Array Value) (o : Nat) (l l' : List Value) (h : l.length = l'.length) : putAt (putAt cs o l) o l' = putAt cs o l' := by
  apply array_ext
  intro i
  rw [putAt_get, putAt_get, putAt_get, putAt_size]
  by_cases h1 : o ≤ i ∧ i < o + l'.length ∧ i < cs.size
  · rw [if_pos h1, if_pos h1]
  · rw [if_neg h1, if_neg (by omega), if_neg h1]
theorem putAt_self (cs : Array Value) (o : Nat) (l : List Value) (h : Has cs o l) : putAt cs o l = cs := by
  apply array_ext
  intro i
  rw [putAt_get]
  split
  · rename_i h1
    have := h (i - o) _ (List.getElem?_eq_getElem (by omega))
    rw [show o + (i - o) = i by omega] at this
    rw [this, List.getElem?_eq_getElem (by omega)]
  · rfl
/-- one cell is stored -/
theorem putAt_one (cs : Array Value) (o j : Nat) (l : List Value) (hl : Has cs o l) (hj : j < l.length) (u : Value) : cs.setIfInBounds (o + j) u = putAt cs o (l.set j u) := by
  apply array_ext
  intro i
  have hle := hl.le (by omega)
  rw [putAt_get, Array.getElem?_setIfInBounds, List.length_set]
  by_cases h0 : o + j = i
  · subst h0
    rw [if_pos rfl, if_pos (by omega), if_pos (by omega), Nat.add_sub_cancel_left, List.getElem?_set_self hj]
  · rw [if_neg h0]
    split
    · rename_i h1
      rw [List.getElem?_set_ne (by omega)]
      have := hl (i - o) _ (List.getElem?_eq_getElem (by omega))
      rw [show o + (i - o) = i by omega] at this
      rw [this, List.getElem?_eq_getElem (by omega)]
    · rfl
theorem Blk.put_ {w : World} {g : Nat} {t : TypeId} {cs : Array Value} (h : Blk w g t cs) {o j : Nat} {l : List Value} (hl : Has cs o l) (hj : j < l.length) (u : Value) : Blk (w.setCell ⟨g, o + j, none⟩ u) g t (putAt cs o (l.set j u)) := by
  have := h.set_ (o + j) u
  rwa [putAt_one cs o j l hl hj u] at this
theorem Blk.at_ {w : World} {g : Nat} {t : TypeId} {cs : Array Value} (h : Blk w g t cs) {o : Nat} {l : List Value} (hl : Has cs o l) (j : Nat) {u : Value} (hj : l[j]? = some u) : w.cell? ⟨g, o + j, none⟩ = some u := (h.cell (o + j)).trans (hl j u hj)
end Go.Proofs.YtcmkcgegdclllaaDoor
