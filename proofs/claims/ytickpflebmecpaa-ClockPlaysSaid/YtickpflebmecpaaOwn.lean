/- Rows of numbers that the call itself made, several at a time, and a table of them. Conditions: none beyond what each theorem states. -/
import Derived.Test.YtickpflebmecpaaTab
import Derived.Test.YtickpflebmecpaaIntRow
namespace Go.Proofs.Ytickpflebmecpaa
open Go.RowKit
set_option linter.unusedVariables false

theorem info_row : (Try.prog.info? 22).map (fun i => (i.zero, i.size, i.bytes)) = some (some (.slice none 0 0), 1, 24) := by kernel_rfl
theorem row_info : ∃ i, Try.prog.info? 22 = some i ∧ i.zero = some (.slice none 0 0) ∧ i.size = 1 ∧ i.bytes = 24 := by
  have h := info_row
  cases hi : Try.prog.info? 22 with
  | none => rw [hi] at h; simp at h
  | some i => rw [hi] at h; simp at h; exact ⟨i, rfl, h.1, h.2.1, h.2.2⟩

structure ORw where
  g : Nat
  cap : Nat
  zs : List Int
  T : List Value
def ORw.val (r : ORw) : Value := .slice (some ⟨r.g, 0, none⟩) r.zs.length r.cap
def ORw.rd (r : ORw) : IRw := ⟨some ⟨r.g, 0, none⟩, r.zs.length, r.cap, r.zs⟩
def ORw.ok (r : ORw) (w : World) (base : Nat) : Prop := base ≤ r.g ∧ r.zs.length + r.T.length = r.cap ∧ r.cap ≤ maxLen ∧ IRow w r.g r.zs r.T
/-- all rows are there, each in a block of its own -/
def ORs (w : World) (base : Nat) (L : List ORw) : Prop := (∀ (i : Nat) (r : ORw), L[i]? = some r → r.ok w base) ∧ ∀ (i j : Nat) (r s : ORw), L[i]? = some r → L[j]? = some s → r.g = s.g → i = j
section
variable {w w' : World} {base : Nat} {L : List ORw} {r : ORw}
theorem IRow.blk_grown {g : Nat} {zs : List Int} {T : List Value} {row : Option Nat} (h : IRow w g zs T) (hg : w.grownBy w' row) (hne : some g ≠ row) : IRow w' g zs T := Blk.grown h hg hne
theorem IRow.lt {g : Nat} {zs : List Int} {T : List Value} (h : IRow w g zs T) : g < w.heap.size := Blk.lt h
theorem ORw.ok.grown {row : Option Nat} (h : r.ok w base) (hg : w.grownBy w' row) (hne : some r.g ≠ row) : r.ok w' base := ⟨h.1, h.2.1, h.2.2.1, h.2.2.2.blk_grown hg hne⟩
theorem ORw.ok.below {B : Nat} (h : r.ok w base) (hb : Below B w w') (hB : r.g < B) : r.ok w' base := ⟨h.1, h.2.1, h.2.2.1, Blk.below h.2.2.2 hb hB⟩
theorem ORw.ok.read (h : r.ok w base) : r.rd.ok w w.heap.size := by
  refine ⟨rfl, by have := h.2.1; show r.zs.length ≤ r.cap; omega, h.2.2.1, ?_⟩
  exact h.2.2.2.reads rfl
theorem ORs.nil (w : World) (base : Nat) : ORs w base [] := ⟨fun i r h => by simp at h, fun i j r s h => by simp at h⟩
theorem ORs.below (h : ORs w base L) (hb : Below w.heap.size w w') : ORs w' base L := ⟨fun i r hr => (h.1 i r hr).below hb (h.1 i r hr).2.2.2.lt, h.2⟩
theorem ORs.drewN (h : ORs w base L) (k : Nat) : ORs (w.drewN k) base L := h
/-- what leaves the int rows alone -/
theorem ORs.keep (h : ORs w base L) (hk : ∀ (i : Nat) (r : ORw), L[i]? = some r → w'.heap[r.g]? = w.heap[r.g]?) : ORs w' base L :=
  ⟨fun i r hr => ⟨(h.1 i r hr).1, (h.1 i r hr).2.1, (h.1 i r hr).2.2.1, (hk i r hr).trans (h.1 i r hr).2.2.2⟩, h.2⟩
theorem ORs.far {g : Nat} {t : TypeId} {cs : Array Value} (h : ORs w base L) (hb : Blk w g t cs) (hne : t ≠ 3) (p : Nat) (u : Value) : ORs (w.setCell ⟨g, p, none⟩ u) base L :=
  h.keep fun i r hr => Below.heap_setCell w ⟨g, p, none⟩ u r.g (fun e => Blk.ne_ (h.1 i r hr).2.2.2 hb (Ne.symm hne) e)
theorem ORs.push (h : ORs w base L) (hr : r.ok w base) (hn : ∀ (i : Nat) (s : ORw), L[i]? = some s → s.g ≠ r.g) : ORs w base (L ++ [r]) := by
  have key : ∀ (i : Nat) (s : ORw), (L ++ [r])[i]? = some s → (L[i]? = some s) ∨ (i = L.length ∧ s = r) := by
    intro i s hs
    rcases Nat.lt_or_ge i L.length with h1 | h1
    · rw [List.getElem?_append_left h1] at hs; exact .inl hs
    · rw [List.getElem?_append_right h1] at hs
      cases h2 : i - L.length with
      | zero => rw [h2] at hs; simp at hs; exact .inr ⟨by omega, hs.symm⟩
      | succ k => rw [h2] at hs; simp at hs
  refine ⟨fun i s hs => ?_, fun i j s t hs ht e => ?_⟩
  · rcases key i s hs with h1 | ⟨_, rfl⟩
    · exact h.1 i s h1
    · exact hr
  · rcases key i s hs with h1 | ⟨e1, rfl⟩ <;> rcases key j t ht with h2 | ⟨e2, rfl⟩
    · exact h.2 i j s t h1 h2 e
    · exact absurd e (hn i s h1)
    · exact absurd e.symm (hn j t h2)
    · omega
/-- one row is written -/
theorem ORs.upd (h : ORs w base L) {i : Nat} (hr : L[i]? = some r) (hg : w.grownBy w' (some r.g)) {zs : List Int} (hI : IRow w' r.g zs r.T) (hl : zs.length = r.zs.length) : ORs w' base (L.set i { r with zs := zs }) := by
  have hi : i < L.length := (List.getElem?_eq_some_iff.1 hr).1
  have key : ∀ (j : Nat) (s : ORw), (L.set i { r with zs := zs })[j]? = some s → (j ≠ i ∧ L[j]? = some s) ∨ (j = i ∧ s = { r with zs := zs }) := by
    intro j s hs
    rw [List.getElem?_set] at hs
    split at hs
    · rename_i e
      subst e
      injection hs with hs
      exact .inr ⟨rfl, hs.symm⟩
    · exact .inl ⟨fun e => by omega, hs⟩
  have h0 := h.1 i r hr
  refine ⟨fun j s hs => ?_, fun j k s t hs ht e => ?_⟩
  · rcases key j s hs with ⟨h1, h2⟩ | ⟨_, rfl⟩
    · exact (h.1 j s h2).grown hg (fun e => h1 (h.2 j i s r h2 hr (by injection e)))
    · exact ⟨h0.1, by show zs.length + _ = _; rw [hl]; exact h0.2.1, h0.2.2.1, hI⟩
  · rcases key j s hs with ⟨h1, h2⟩ | ⟨e1, rfl⟩ <;> rcases key k t ht with ⟨h3, h4⟩ | ⟨e2, rfl⟩
    · exact h.2 j k s t h2 h4 e
    · exact absurd (h.2 j i s r h2 hr e) h1
    · exact absurd (h.2 k i t r h4 hr e.symm) h3
    · omega
theorem vals_upd {i : Nat} (hr : L[i]? = some r) {zs : List Int} (hl : zs.length = r.zs.length) : (L.set i { r with zs := zs }).map ORw.val = L.map ORw.val := by
  have hi : i < L.length := (List.getElem?_eq_some_iff.1 hr).1
  rw [List.map_set, show ORw.val { r with zs := zs } = r.val by unfold ORw.val; rw [hl]]
  apply List.ext_getElem?
  intro j
  rw [List.getElem?_set]
  split
  · rename_i e
    subst e
    rw [if_pos (by simpa using hi), List.getElem?_map, hr]
    rfl
  · rfl
end

/-- the table's header, its rows, and all of them own -/
def OTab (w : World) (base : Nat) (v : Value) (L : List ORw) : Prop := w.ownsRow base 22 1 v L.length (L.map ORw.val)
section
variable {w w' : World} {base : Nat} {L : List ORw} {r : ORw} {v : Value}
theorem OTab.int_far {g : Nat} {cs : Array Value} (h : OTab w base v L) (hb : Blk w g 3 cs) (hg : w.grownBy w' (some g)) : OTab w' base v L := by
  refine World.ownsRow.kept h hg ?_
  right
  intro e
  exact own_blk_ne h hb (by decide) e
theorem OTab.upd {i : Nat} {zs : List Int} (h : OTab w base v L) (hr : L[i]? = some r) (hl : zs.length = r.zs.length) : OTab w base v (L.set i { r with zs := zs }) := by
  unfold OTab
  rw [vals_upd hr hl, List.length_set]
  exact h
theorem otab_tab (h : OTab w base v L) (hL : ORs w base L) : ∃ A c, v = .slice A L.length c ∧ L.length ≤ c ∧ c ≤ maxLen ∧ Tab w w.heap.size A L.length (L.map ORw.rd) := by
  have hr : Reads w w.heap.size 1 (match v with | .slice A _ _ => A | _ => none) L.length (L.map ORw.val) := by
    obtain ⟨A, c, rfl, _⟩ := own_slice h
    exact Reads.of_own h
  have hcap : ∃ A c, v = .slice A L.length c ∧ L.length ≤ c ∧ c ≤ maxLen := by
    rcases h.2 with ⟨rfl, e⟩ | ⟨g, cap, cur, rfl, _, _, h1, h2, _⟩
    · exact ⟨none, 0, by rw [e], by omega, Nat.zero_le _⟩
    · exact ⟨_, cap, rfl, h1, h2⟩
  obtain ⟨A, c, rfl, h1, h2⟩ := hcap
  refine ⟨A, c, rfl, h1, h2, by simp, ?_, fun r hr => ?_⟩
  · rw [List.map_map]
    exact hr
  · obtain ⟨s, hs, rfl⟩ := List.mem_map.1 hr
    obtain ⟨i, hi⟩ := List.mem_iff_getElem?.1 hs
    exact (hL.1 i s hi).read
end
theorem below_of_none {w w' : World} (h : w.grownBy w' none) : Below w.heap.size w w' := ⟨h.os, h.tape, h.output, h.size, fun k hk => h.block k hk (by simp)⟩
theorem below_of_drew {B : Nat} {w w' : World} (h : Below B w.drew w') : Below B w w' := ⟨h.os, h.tape, h.output, h.size, h.block⟩
theorem below_of_drewN {B n : Nat} {w w' : World} (h : Below B (w.drewN n) w') : Below B w w' := ⟨h.os, h.tape, h.output, h.size, h.block⟩
theorem own_below {w w' : World} {base size n : Nat} {e : TypeId} {v : Value} {xs : List Value} (h : w.ownsRow base e size v n xs) (hb : Below w.heap.size w w') : w'.ownsRow base e size v n xs := by
  refine World.ownsRow.kept h (only_of_below hb none) ?_
  cases v.ownBlock with
  | none => exact .inl rfl
  | some g => exact .inr (by simp)
theorem ORs.grown_hdr {w w' : World} {base base' size n : Nat} {L : List ORw} {e : TypeId} {v : Value} {xs : List Value} (h : ORs w base L) (hown : w.ownsRow base' e size v n xs) (hne : e ≠ 3) (hg : w.grownBy w' v.ownBlock) : ORs w' base L :=
  h.keep fun i r hr => hg.block r.g (h.1 i r hr).2.2.2.lt (Ne.symm (own_blk_ne hown (h.1 i r hr).2.2.2 hne))
theorem own_set_far {w : World} {base size n g : Nat} {e t : TypeId} {v : Value} {xs : List Value} {cs : Array Value} (h : w.ownsRow base e size v n xs) (hb : Blk w g t cs) (hne : e ≠ t) (p : Nat) (u : Value) : (w.setCell ⟨g, p, none⟩ u).ownsRow base e size v n xs :=
  World.ownsRow.kept h (only_setCell (World.grownBy.refl w (some g)) (.inl rfl) u) (.inr (own_blk_ne h hb hne))
/-- an own row of numbers that is not empty, as 'ORw' -/
theorem orw_of_own {w : World} {base n : Nat} {v : Value} {zs : List Int} (h : w.ownsRow base 3 1 v n (zs.map (.int .i64))) (hn : 0 < n) : ∃ r : ORw, r.zs = zs ∧ r.zs.length = n ∧ v = .slice (some ⟨r.g, 0, none⟩) n r.cap ∧ r.ok w base := by
  obtain ⟨g, cap, T, rfl, h1, h2, h3, h4, h5, h6⟩ := own_irow h hn
  have hl : zs.length = n := by have := h.1; simpa using this
  exact ⟨⟨g, cap, zs, T⟩, rfl, hl, rfl, h1, by rw [hl]; exact h5, h4, h6⟩
theorem orw_val {r : ORw} {n : Nat} (h : r.zs.length = n) : r.val = .slice (some ⟨r.g, 0, none⟩) n r.cap := by rw [ORw.val, h]
end Go.Proofs.Ytickpflebmecpaa
