/- What the reference's ClockPlayed holds in memory: rows of what each event hangs on, rows of counts. Conditions: none beyond what each theorem states. -/
import Derived.Test.YtickpflebmecpaaClockE
namespace Go.Proofs.Ytickpflebmecpaa
open Go.RowKit
set_option linter.unusedVariables false

theorem info_boolrow : (Try.prog.info? 45).map (fun i => (i.zero, i.size, i.bytes)) = some (some (.slice none 0 0), 1, 24) := by kernel_rfl
theorem boolrow_info : ∃ i, Try.prog.info? 45 = some i ∧ i.zero = some (.slice none 0 0) ∧ i.size = 1 ∧ i.bytes = 24 := by
  have h := info_boolrow
  cases hi : Try.prog.info? 45 with
  | none => rw [hi] at h; simp at h
  | some i => rw [hi] at h; simp at h; exact ⟨i, rfl, h.1, h.2.1, h.2.2⟩
theorem info_bool : (Try.prog.info? 4).map (fun i => (i.zero, i.size, i.bytes)) = some (some (.bool false), 1, 1) := by kernel_rfl
theorem bool_info : ∃ i, Try.prog.info? 4 = some i ∧ i.zero = some (.bool false) ∧ i.size = 1 ∧ i.bytes = 1 := by
  have h := info_bool
  cases hi : Try.prog.info? 4 with
  | none => rw [hi] at h; simp at h
  | some i => rw [hi] at h; simp at h; exact ⟨i, rfl, h.1, h.2.1, h.2.2⟩

/-- a row of bools of the call's own -/
def BRow (w : World) (g n : Nat) (P : Nat → Bool) : Prop := Blk w g 4 ((List.range n).map fun j => Value.bool (P j)).toArray
section
variable {w wr w' : World} {g n m k s : Nat} {P P' : Nat → Bool} {es : List Ev} {hv ov : Value}
theorem BRow.cell (h : BRow w g n P) {j : Nat} (hj : j < n) : w.cell? ⟨g, j, none⟩ = some (.bool (P j)) := by
  rw [Blk.cell h j, List.getElem?_toArray, List.getElem?_map, List.getElem?_range hj]
  rfl
theorem BRow.congr (h : BRow w g n P) (hp : ∀ j, j < n → P j = P' j) : BRow w g n P' := by
  unfold BRow at h ⊢
  rwa [List.map_congr_left (g := fun j => Value.bool (P' j)) (fun j hj => by rw [hp j (List.mem_range.1 hj)])] at h
theorem BRow.set_ (h : BRow w g n P) {j : Nat} (hj : j < n) (b : Bool) : BRow (w.setCell ⟨g, j, none⟩ (.bool b)) g n (fun q => if q = j then b else P q) := by
  have h1 := Blk.set_ h j (.bool b)
  unfold BRow
  have e : ((List.range n).map fun j => Value.bool (P j)).toArray.setIfInBounds j (.bool b) = ((List.range n).map fun q => Value.bool (if q = j then b else P q)).toArray := by
    rw [← Array.toList_inj]
    simp only [Array.toList_setIfInBounds]
    exact set_map_range _ _ _ _ _ (fun _ => by simp) (fun q _ hq => by simp [hq])
  rw [e] at h1
  exact h1
/-- what event m hangs on, as far as q events ahead were looked at -/
def stageB (es : List Ev) (m q j : Nat) : Bool := j == m || (List.range q).any fun k => depF es m k && Hg (depF es) k j
theorem stageB_last (es : List Ev) (m j : Nat) : stageB es m m j = Hg (depF es) m j := (Hg_eq m j).symm
theorem stageB_succ (es : List Ev) (m q j : Nat) : stageB es m (q + 1) j = (stageB es m q j || (depF es m q && Hg (depF es) q j)) := by
  unfold stageB
  rw [List.range_succ, List.any_append]
  simp [Bool.or_assoc]

/-- the rows of what each of k events hangs on -/
def HangSt (w wr : World) (es : List Ev) (n k : Nat) (hv : Value) : Prop := ∃ Gs : List Nat, Gs.length = k ∧ wr.ownsRow w.heap.size 45 1 hv k (Gs.map fun g => Value.slice (some ⟨g, 0, none⟩) n n) ∧
  ∀ i g, Gs[i]? = some g → w.heap.size ≤ g ∧ BRow wr g n (Hg (depF es) i)
def OutSt (w wr : World) (es : List Ev) (s k : Nat) (ov : Value) : Prop := ∃ O : List ORw, wr.ownsRow w.heap.size 22 1 ov k (O.map ORw.val) ∧ RowsOk wr w.heap.size O ∧ O.map (·.zs) = (List.range k).map (clkRow es s)
theorem HangSt.below (h : HangSt w wr es n k hv) (hb : Below wr.heap.size wr w') : HangSt w w' es n k hv := by
  obtain ⟨Gs, h0, h1, h2⟩ := h
  exact ⟨Gs, h0, own_below h1 hb, fun i g hg => ⟨(h2 i g hg).1, Blk.below (h2 i g hg).2 hb (Blk.lt (h2 i g hg).2)⟩⟩
theorem OutSt.below (h : OutSt w wr es s k ov) (hb : Below wr.heap.size wr w') : OutSt w w' es s k ov := by
  obtain ⟨O, h1, h2, h3⟩ := h
  exact ⟨O, own_below h1 hb, h2.below hb, h3⟩
theorem HangSt.start (w wr : World) (es : List Ev) (n : Nat) : HangSt w wr es n 0 (.slice none 0 0) := ⟨[], rfl, World.ownsRow_nil _ _ _ _, fun i g h => by simp at h⟩
theorem OutSt.start (w wr : World) (es : List Ev) (s : Nat) : OutSt w wr es s 0 (.slice none 0 0) := ⟨[], World.ownsRow_nil _ _ _ _, RowsOk.nil _ _, rfl⟩
theorem HangSt.at_ (h : HangSt w wr es n k hv) {q : Nat} (hq : q < k) : ∃ b c g, hv = .slice (some ⟨b, 0, none⟩) k c ∧ wr.cell? ⟨b, q, none⟩ = some (.slice (some ⟨g, 0, none⟩) n n) ∧ b < wr.heap.size ∧ g < wr.heap.size ∧ BRow wr g n (Hg (depF es) q) := by
  obtain ⟨Gs, h0, h1, h2⟩ := h
  have hg : Gs[q]? = some (Gs[q]'(by omega)) := List.getElem?_eq_getElem (by omega)
  generalize Gs[q]'(by omega) = g at hg
  obtain ⟨b, c, hv', hb, hlt⟩ := h1.form (by omega)
  have hc := h1.cells (g := b) (by rw [hv']; rfl) q (Value.slice (some ⟨g, 0, none⟩) n n) (by rw [List.getElem?_map, hg]; rfl)
  have e : (⟨b, 0, none⟩ : Addr).add q = ⟨b, q, none⟩ := by unfold Addr.add; split <;> simp_all
  rw [e] at hc
  exact ⟨b, c, g, hv', hc, hlt, Blk.lt (h2 q g hg).2, (h2 q g hg).2⟩
theorem HangSt.push (h : HangSt w wr es n k hv) : ∃ xs, wr.ownsRow w.heap.size 45 1 hv k xs ∧ ∀ (g : Nat) (w' : World) (hv' : Value), w.heap.size ≤ g → BRow wr g n (Hg (depF es) k) → wr.grownBy w' hv.ownBlock →
    w'.ownsRow w.heap.size 45 1 hv' (k + 1) (xs ++ [.slice (some ⟨g, 0, none⟩) n n]) → HangSt w w' es n (k + 1) hv' := by
  obtain ⟨Gs, h0, h1, h2⟩ := h
  refine ⟨_, h1, fun g w' hv' hg hB hgr hown => ?_⟩
  have keep : ∀ g P, BRow wr g n P → BRow w' g n P := fun g P hb => Blk.grown hb hgr (Ne.symm (own_blk_ne h1 hb (by decide)))
  refine ⟨Gs ++ [g], by simp [h0], by rw [List.map_append]; exact hown, fun i g' hg' => ?_⟩
  rcases Nat.lt_or_ge i Gs.length with hi | hi
  · rw [List.getElem?_append_left hi] at hg'
    exact ⟨(h2 i g' hg').1, keep _ _ (h2 i g' hg').2⟩
  · rw [List.getElem?_append_right hi] at hg'
    obtain rfl : i = k := by
      cases h4 : i - Gs.length with
      | zero => omega
      | succ j => rw [h4] at hg'; simp at hg'
    rw [h0, Nat.sub_self] at hg'
    simp at hg'
    subst hg'
    exact ⟨hg, keep _ _ hB⟩
theorem OutSt.grown (h : OutSt w wr es s k ov) {base size n' : Nat} {e : TypeId} {v : Value} {xs : List Value} (hown : wr.ownsRow base e size v n' xs) (hne : e ≠ 3) (hne2 : e ≠ 22) (hg : wr.grownBy w' v.ownBlock) : OutSt w w' es s k ov := by
  obtain ⟨O, h1, h2, h3⟩ := h
  exact ⟨O, World.ownsRow.kept h1 hg (own_own_ne h1 hown (Ne.symm hne2)), h2.grown hown hne hg, h3⟩
theorem HangSt.grown (h : HangSt w wr es n k hv) {base size n' : Nat} {e : TypeId} {v : Value} {xs : List Value} (hown : wr.ownsRow base e size v n' xs) (hne : e ≠ 4) (hne2 : e ≠ 45) (hg : wr.grownBy w' v.ownBlock) : HangSt w w' es n k hv := by
  obtain ⟨Gs, h0, h1, h2⟩ := h
  exact ⟨Gs, h0, World.ownsRow.kept h1 hg (own_own_ne h1 hown (Ne.symm hne2)), fun i g' hg' => ⟨(h2 i g' hg').1, Blk.grown (h2 i g' hg').2 hg (Ne.symm (own_blk_ne hown (h2 i g' hg').2 hne))⟩⟩
theorem OutSt.push (h : OutSt w wr es s k ov) : ∃ xs, wr.ownsRow w.heap.size 22 1 ov k xs ∧ ∀ (g : Nat) (w' : World) (ov' : Value), w.heap.size ≤ g → s ≤ maxLen → IRow wr g (clkRow es s k) [] → wr.grownBy w' ov.ownBlock →
    w'.ownsRow w.heap.size 22 1 ov' (k + 1) (xs ++ [.slice (some ⟨g, 0, none⟩) s s]) → OutSt w w' es s (k + 1) ov' := by
  obtain ⟨O, h1, h2, h3⟩ := h
  refine ⟨_, h1, fun g w' ov' hg hs hI hgr hown => ?_⟩
  have hr : ORw.ok ⟨g, s, clkRow es s k, []⟩ wr w.heap.size := ⟨hg, by show (clkRow es s k).length + 0 = s; rw [clkRow_len]; rfl, hs, hI⟩
  have hv : ORw.val ⟨g, s, clkRow es s k, []⟩ = .slice (some ⟨g, 0, none⟩) s s := by rw [ORw.val]; dsimp only; rw [clkRow_len]
  refine ⟨O ++ [⟨g, s, clkRow es s k, []⟩], ?_, (h2.app (RowsOk.one hr)).grown h1 (by decide) hgr, ?_⟩
  · rw [List.map_append, List.map_cons, List.map_nil, hv]; exact hown
  · rw [List.map_append, h3, List.range_succ, List.map_append]; rfl
theorem OutSt.done (h : OutSt w wr es s k ov) (hb : Below w.heap.size w wr) : ∃ A c, ov = .slice A k c ∧ TabPost w.heap.size ((List.range k).map (clkRow es s), 0) (.returned (.tuple #[.slice A k c, .int .i64 0])) w wr := by
  obtain ⟨O, h1, h2, h3⟩ := h
  have hl : O.length = k := by have := congrArg List.length h3; simpa using this
  subst hl
  obtain ⟨A, c, rfl, h8, h9, ht⟩ := rowsok_tab h1 h2
  exact ⟨A, c, rfl, A, _, c, _, rfl, h8, h9, ht, by rw [List.map_map]; exact h3, hb⟩
end
/-- one more place of the count -/
theorem cntRow_succ {es : List Ev} {s j : Nat} {P : Nat → Bool} : P j = false → cntRow es s P (j + 1) = cntRow es s P j := by
  intro h
  unfold cntRow
  refine List.map_congr_left fun q _ => ?_
  rw [cntS, if_neg (by rw [h]; simp), Nat.add_zero]
theorem cntRow_inc {es : List Ev} {s j p : Nat} {P : Nat → Bool} (h : P j = true) (hw : whoF es j = (p : Int)) (hp : p < s) : ∃ z, (cntRow es s P j)[p]? = some z ∧ 0 ≤ z ∧ z ≤ j ∧ (cntRow es s P j).set p (z + 1) = cntRow es s P (j + 1) := by
  refine ⟨_, cntRow_get hp, by omega, by have := cntS_le (whoF es) P p j; omega, ?_⟩
  unfold cntRow
  refine set_map_range _ _ _ _ _ (fun _ => ?_) (fun q _ hq => ?_)
  · rw [cntS, if_pos ⟨h, hw⟩]; rfl
  · rw [cntS, if_neg (by rw [hw]; omega), Nat.add_zero]
theorem irow_made (w : World) (s : Nat) : IRow (w.alloc (.cells (madeCells #[Value.int .i64 0] s) 3)) w.heap.size (List.replicate s 0) [] := by
  unfold IRow
  have e : ((List.replicate s (0 : Int)).map (Value.int .i64) ++ []).toArray = madeCells #[Value.int .i64 0] s := by
    rw [← Array.toList_inj]
    simp [toList_madeCells_one]
  rw [e]
  exact Blk.new w 3 _
theorem cntRow_zero {es : List Ev} {s : Nat} {P : Nat → Bool} : cntRow es s P 0 = List.replicate s 0 := by
  unfold cntRow
  apply List.ext_getElem
  · simp
  · intro i h1 h2
    simp [cntS]
end Go.Proofs.Ytickpflebmecpaa
