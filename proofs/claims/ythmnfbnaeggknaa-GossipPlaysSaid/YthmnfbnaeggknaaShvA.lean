/- The reference's Shelves: how they lie in memory; List, reads. Conditions: none beyond what each theorem states. -/
import Derived.Test.YthmnfbnaeggknaaRegN
import Derived.Test.YthmnfbnaeggknaaGosD
namespace Go.Proofs.Ythmnfbnaeggknaa
open Go.RowKit
set_option linter.unusedVariables false

/-- what there is at a place of the shelves: an entry, and whether it is there -/
abbrev Slot := Ent × Bool
def slotE (q : List Slot) : List Value := q.flatMap fun s => entCells s.1
def slotB (q : List Slot) : List Value := q.map fun s => Value.bool s.2
theorem slotE_len (q : List Slot) : (slotE q).length = q.length * 5 := flat_len (cells := fun s : Slot => entCells s.1) (fun _ => rfl) q
theorem slotE_get (q : List Slot) (p : Nat) (s : Slot) (h : q[p]? = some s) (j : Nat) (u : Value) (hu : (entCells s.1)[j]? = some u) : (slotE q)[p * 5 + j]? = some u := by
  have hj : j < 5 := (List.getElem?_eq_some_iff.1 hu).1
  unfold slotE
  rw [flatMap_get (fun s : Slot => entCells s.1) 5 (fun _ => rfl) q p j hj, h]
  exact hu
theorem slotB_get (q : List Slot) (p : Nat) (s : Slot) (h : q[p]? = some s) : (slotB q)[p]? = some (.bool s.2) := by simp [slotB, h]
/-- one branch's shelf: blocks 'x' (entries) and 'y' (which are there) -/
structure ShvOne (w : World) (base x y n : Nat) (q : List Slot) : Prop where
  ents : Blk w x 84 (slotE q).toArray
  bits : Blk w y 83 (slotB q).toArray
  len : q.length = n * 8
  lowx : base ≤ x
  lowy : base ≤ y
structure ShvAt (w : World) (base sb hb ib n c m hc ic : Nat) (A : Option Addr) (X Y : List Nat) (Q : List (List Slot)) : Prop where
  n8 : n ≤ 1000
  m8 : m ≤ 60
  xm : X.length = m
  ym : Y.length = m
  qm : Q.length = m
  cap : m ≤ hc ∧ m ≤ ic
  shelves : Blk w sb 79 #[.slice A n c, .slice (some ⟨hb, 0, none⟩) m hc, .slice (some ⟨ib, 0, none⟩) m ic]
  rowx : ∃ cs, Blk w hb 80 cs ∧ ∀ j g : Nat, X[j]? = some g → cs[j]? = some (.slice (some ⟨g, 0, none⟩) n n)
  rowy : ∃ cs, Blk w ib 81 cs ∧ ∀ j g : Nat, Y[j]? = some g → cs[j]? = some (.slice (some ⟨g, 0, none⟩) n n)
  st : ∀ (j x y : Nat) (q : List Slot), X[j]? = some x → Y[j]? = some y → Q[j]? = some q → ShvOne w base x y n q
  ndx : X.Nodup
  ndy : Y.Nodup
  low : base ≤ sb ∧ base ≤ hb ∧ base ≤ ib
section
variable {w w' : World} {base x y n : Nat} {q : List Slot}
theorem ShvOne.only {D : Nat → Prop} (h : ShvOne w base x y n q) (ho : Only D w w') (h1 : ¬ D x) (h2 : ¬ D y) : ShvOne w' base x y n q :=
  ⟨h.ents.only ho h1, h.bits.only ho h2, h.len, h.lowx, h.lowy⟩
theorem ShvOne.calm (h : ShvOne w base x y n q) (hb : Below w.heap.size w w') : ShvOne w' base x y n q :=
  ⟨h.ents.below hb h.ents.lt, h.bits.below hb h.bits.lt, h.len, h.lowx, h.lowy⟩
theorem ShvOne.cellE (h : ShvOne w base x y n q) {l k : Nat} {s : Slot} (hs : q[l * 8 + k]? = some s) (j : Nat) (u : Value) (hu : (entCells s.1)[j]? = some u) : w.cell? ⟨x, l * 40 + k * 5 + j, none⟩ = some u := by
  rw [h.ents.cell, show l * 40 + k * 5 + j = (l * 8 + k) * 5 + j by omega]
  simpa using slotE_get q _ s hs j u hu
theorem ShvOne.cellB (h : ShvOne w base x y n q) {l k : Nat} {s : Slot} (hs : q[l * 8 + k]? = some s) : w.cell? ⟨y, l * 8 + k, none⟩ = some (.bool s.2) := by
  rw [h.bits.cell]
  simpa using slotB_get q _ s hs
end
section
variable {w w' : World} {base sb hb ib n c m hc ic : Nat} {A : Option Addr} {X Y : List Nat} {Q : List (List Slot)}
theorem ShvAt.calm (h : ShvAt w base sb hb ib n c m hc ic A X Y Q) (hw : Below w.heap.size w w') : ShvAt w' base sb hb ib n c m hc ic A X Y Q := by
  obtain ⟨cs, h1, h2⟩ := h.rowx
  obtain ⟨cs', h3, h4⟩ := h.rowy
  exact ⟨h.n8, h.m8, h.xm, h.ym, h.qm, h.cap, h.shelves.below hw h.shelves.lt, ⟨cs, h1.below hw h1.lt, h2⟩, ⟨cs', h3.below hw h3.lt, h4⟩, fun j x y q hx hy hq => (h.st j x y q hx hy hq).calm hw, h.ndx, h.ndy, h.low⟩
/-- one branch's shelf set anew -/
theorem ShvAt.put (h : ShvAt w base sb hb ib n c m hc ic A X Y Q) {j x y : Nat} {q q' : List Slot} (hx : X[j]? = some x) (hy : Y[j]? = some y) (hq : Q[j]? = some q) (hs' : ShvOne w' base x y n q') (ho : Only (fun k => k = x ∨ k = y) w w') :
    ShvAt w' base sb hb ib n c m hc ic A X Y (Q.set j q') := by
  obtain ⟨cs, h1, h2⟩ := h.rowx
  obtain ⟨cs', h3, h4⟩ := h.rowy
  have hst := h.st j x y q hx hy hq
  refine ⟨h.n8, h.m8, h.xm, h.ym, by simp [h.qm], h.cap, h.shelves.only ho ?_, ⟨cs, h1.only ho ?_, h2⟩, ⟨cs', h3.only ho ?_, h4⟩, ?_, h.ndx, h.ndy, h.low⟩
  · rintro (e | e)
    · exact h.shelves.ne_ hst.ents (by decide) e
    · exact h.shelves.ne_ hst.bits (by decide) e
  · rintro (e | e)
    · exact h1.ne_ hst.ents (by decide) e
    · exact h1.ne_ hst.bits (by decide) e
  · rintro (e | e)
    · exact h3.ne_ hst.ents (by decide) e
    · exact h3.ne_ hst.bits (by decide) e
  intro i xi yi qi hxi hyi hqi
  by_cases hij : i = j
  · subst hij
    rw [List.getElem?_set_self (by rw [h.qm, ← h.xm]; exact (List.getElem?_eq_some_iff.1 hx).1)] at hqi
    cases hqi
    obtain rfl : xi = x := by rw [hx] at hxi; cases hxi; rfl
    obtain rfl : yi = y := by rw [hy] at hyi; cases hyi; rfl
    exact hs'
  · rw [List.getElem?_set_ne (fun e => hij e.symm)] at hqi
    have hi := h.st i xi yi qi hxi hyi hqi
    refine hi.only ho ?_ ?_
    · rintro (e | e)
      · subst e
        exact hij ((List.getElem?_inj (List.getElem?_eq_some_iff.1 hxi).1 h.ndx).1 (by rw [hxi, hx]))
      · exact hi.ents.ne_ hst.bits (by decide) e
    · rintro (e | e)
      · exact hi.bits.ne_ hst.ents (by decide) e
      · subst e
        exact hij ((List.getElem?_inj (List.getElem?_eq_some_iff.1 hyi).1 h.ndy).1 (by rw [hyi, hy]))
theorem ShvAt.c0 (h : ShvAt w base sb hb ib n c m hc ic A X Y Q) : w.cell? ⟨sb, 0, none⟩ = some (.slice A n c) := by rw [h.shelves.cell 0]; rfl
theorem ShvAt.c1 (h : ShvAt w base sb hb ib n c m hc ic A X Y Q) : w.cell? ⟨sb, 1, none⟩ = some (.slice (some ⟨hb, 0, none⟩) m hc) := by rw [h.shelves.cell 1]; rfl
theorem ShvAt.c2 (h : ShvAt w base sb hb ib n c m hc ic A X Y Q) : w.cell? ⟨sb, 2, none⟩ = some (.slice (some ⟨ib, 0, none⟩) m ic) := by rw [h.shelves.cell 2]; rfl
theorem ShvAt.cs (h : ShvAt w base sb hb ib n c m hc ic A X Y Q) {j : Nat} (hj : j < m) : ∃ x y q, X[j]? = some x ∧ Y[j]? = some y ∧ Q[j]? = some q ∧ w.cell? ⟨hb, j, none⟩ = some (.slice (some ⟨x, 0, none⟩) n n) ∧ w.cell? ⟨ib, j, none⟩ = some (.slice (some ⟨y, 0, none⟩) n n) ∧ ShvOne w base x y n q := by
  obtain ⟨cs, h1, h2⟩ := h.rowx
  obtain ⟨cs', h3, h4⟩ := h.rowy
  have e1 : X[j]? = some (X[j]'(by rw [h.xm]; exact hj)) := List.getElem?_eq_getElem _
  have e2 : Y[j]? = some (Y[j]'(by rw [h.ym]; exact hj)) := List.getElem?_eq_getElem _
  have e3 : Q[j]? = some (Q[j]'(by rw [h.qm]; exact hj)) := List.getElem?_eq_getElem _
  refine ⟨_, _, _, e1, e2, e3, ?_, ?_, h.st j _ _ _ e1 e2 e3⟩
  · rw [h1.cell]; exact h2 j _ e1
  · rw [h3.cell]; exact h4 j _ e2
end
theorem refReads_any (v j : Nat) (w : World) (hv : v ≤ 255) (hj : j ≤ 62) : Calls Try.prog 49 #[.int .i64 v, .int .i64 j] w fun e w' => e = .returned (.bool (v.testBit j)) ∧ w = w' := by
  have hbit := in_and1 v j hv
  have HV := hide hv
  clear hv
  go_enter Try.func49, Try.ntmps49
  go_wp2_with fail
  go_ret
  exact ⟨rfl, rfl⟩
/-- the places of a label -/
def rowQ (q : List Slot) (l : Nat) : List Slot := (q.drop (l * 8)).take 8
def lsS (r : List Slot) : List Ent := r.filterMap fun s => if s.2 then some s.1 else none
theorem rowQ_get (q : List Slot) (l k : Nat) (hk : k < 8) : (rowQ q l)[k]? = q[l * 8 + k]? := by
  unfold rowQ
  rw [List.getElem?_take, if_pos hk, List.getElem?_drop]
theorem rowQ_len (q : List Slot) (l n : Nat) (h : q.length = n * 8) (hl : l < n) : (rowQ q l).length = 8 := by
  unfold rowQ
  rw [List.length_take, List.length_drop, h]
  omega
theorem lsS_take (r : List Slot) (k : Nat) (s : Slot) (h : r[k]? = some s) : lsS (r.take (k + 1)) = lsS (r.take k) ++ (if s.2 then [s.1] else []) := by
  rw [take_snoc r k s h]
  unfold lsS
  rw [List.filterMap_append]
  cases h2 : s.2 <;> simp [h2]
theorem lsS_len (r : List Slot) : (lsS r).length ≤ r.length := by unfold lsS; exact List.length_filterMap_le _ _
set_option maxRecDepth 100000 in
set_option maxHeartbeats 2000000 in
theorem shvList_any (base sb hb ib n c m hc ic : Nat) (A : Option Addr) (X Y : List Nat) (Q : List (List Slot)) (w : World) (who l : Nat) (q : List Slot) (h : ShvAt w base sb hb ib n c m hc ic A X Y Q) (hw : who < m) (hl : l < n) (hq : Q[who]? = some q) :
    Calls Try.prog 37 #[.pointer (some ⟨sb, 0, none⟩), .int .i64 who, .int .i64 l] w fun e w' => ∃ v, e = .returned v ∧ w'.ownsRow w.heap.size 25 5 v (lsS (rowQ q l)).length ((lsS (rowQ q l)).flatMap entCells) ∧ Below w.heap.size w w' := by
  have hn8 := h.n8
  have hm8 := h.m8
  obtain ⟨x, y, q', hx, hy, hq', y1, y2, hone⟩ := h.cs hw
  obtain rfl : q' = q := by rw [hq] at hq'; cases hq'; rfl
  have c1 := h.c1
  have c2 := h.c2
  have hlen := rowQ_len q' l n hone.len hl
  have HON := hide hone
  have HLEN := hide hlen
  have HH := hide h
  have ltS := h.shelves.lt
  obtain ⟨cs, k1, _⟩ := h.rowx
  obtain ⟨cs', k2, _⟩ := h.rowy
  have f1 := fun (W : World) (hz : Below w.heap.size w W) => (hz.cell (p := ⟨sb, 1, none⟩) ltS).trans c1
  have f2 := fun (W : World) (hz : Below w.heap.size w W) => (hz.cell (p := ⟨sb, 2, none⟩) ltS).trans c2
  have f3 := fun (W : World) (hz : Below w.heap.size w W) => (hz.cell (p := ⟨hb, who, none⟩) k1.lt).trans y1
  have f4 := fun (W : World) (hz : Below w.heap.size w W) => (hz.cell (p := ⟨ib, who, none⟩) k2.lt).trans y2
  have hw' : (who : Int) < (m : Int) := by omega
  have hl' : (l : Int) < (n : Int) := by omega
  obtain ⟨R, hR⟩ : ∃ R, R = rowQ q' l := ⟨_, rfl⟩
  have HR := hide hR
  have HG := hide (fun k (hk : k < 8) => rowQ_get q' l k hk)
  clear h hone hlen hq hq' hx hy k1 k2 hR c1 c2 y1 y2 ltS
  rw [← unhide HR] at HLEN HG
  rw [← unhide HR]
  obtain ⟨i0, hi, hz0, hz1, hz2⟩ := ent_info
  go_enter Try.func37, Try.ntmps37
  go_wp2_with fail
  go_loopw [7, 9] (fun v j wr => ∃ (k : Nat), k ≤ 8 ∧ j = .int .i64 k ∧ Hid (wr.ownsRow w.heap.size 25 5 v (lsS (R.take k)).length ((lsS (R.take k)).flatMap entCells)) ∧ Hid (Below w.heap.size w wr)) (fun _ j _ => 8 - (intOf j).toNat)
  case atStart => exact ⟨0, by omega, rfl, World.ownsRow_nil _ _ _ _, Below.refl _ _⟩
  case round =>
    obtain ⟨k, hk, rfl, HO, HB⟩ := hrel
    have hz := unhide HB
    by_cases hlt : k < 8
    · have hs : R[k]? = some (R[k]'(by rw [unhide HLEN]; exact hlt)) := List.getElem?_eq_getElem _
      generalize R[k]'(by rw [unhide HLEN]; exact hlt) = s at hs
      have hqs := (unhide HG k hlt).symm.trans hs
      have hW := (unhide HON).only (Only.of_below hz (fun x h1 h2 => by omega)) (D := fun _ => False) (fun e => e) (fun e => e)
      have b0 := hW.cellB hqs
      have HTK := hide (lsS_take R k s hs)
      obtain ⟨⟨s0, s1, s2, s3, s4⟩, b⟩ := s
      have e0 : wr.cell? ⟨x, l * 40 + k * 5, none⟩ = some (.int .i64 s0) := hW.cellE hqs 0 _ rfl
      have e1 : wr.cell? ⟨x, l * 40 + k * 5 + 1, none⟩ = some (.int .i64 s1) := hW.cellE hqs 1 _ rfl
      have e2 : wr.cell? ⟨x, l * 40 + k * 5 + 2, none⟩ = some (.int .i64 s2) := hW.cellE hqs 2 _ rfl
      have e3 : wr.cell? ⟨x, l * 40 + k * 5 + 3, none⟩ = some (.int .i64 s3) := hW.cellE hqs 3 _ rfl
      have e4 : wr.cell? ⟨x, l * 40 + k * 5 + 4, none⟩ = some (.bool s4) := hW.cellE hqs 4 _ rfl
      dsimp only at b0 HTK
      clear hs hqs hW
      cases b
      · go_wp2_with fail
        go_roundw
        case rel => exact ⟨k + 1, by omega, by go_num, by rw [unhide HTK]; simpa using HO, HB⟩
        case measure => simp [intOf]; omega
      · obtain ⟨A1, c1, rfl, hc1⟩ := own_slice (unhide HO)
        have hkl := lsS_len (R.take k)
        have hkt := List.length_take_le k R
        obtain ⟨q0, hq0⟩ : ∃ q0, q0 = (lsS (R.take k)).length := ⟨_, rfl⟩
        have hq8 : q0 ≤ 8 := by omega
        have HQ0 := hide hq0
        rw [← hq0] at HO
        rw [← hq0]
        have hmq : (q0 + 1) * 40 ≤ 140737488355328 := by omega
        have hsz := hz.size
        clear hq0 hkl hkt
        go_wp2_with (first
          | (at_builtin; (refine wpList_append_new _ rfl (.tmp 24) (.tmp 37) _ rfl w.heap.size 25 i0 _ 5 40 Try.underlying22 hi hz0 hz1 hz2 rfl (by omega) (by omega) _ q0 _ (unhide HO) rfl _ 1 _ rfl rfl rfl (by simp [Value.oneCell']) hmq hsz ?_); intro g4 cap4 w4 hg4 hown4 hbel4 hgr4 hat4))
        have HO4 := hide (show w4.ownsRow w.heap.size 25 5 (.slice (some ⟨g4, 0, none⟩) (q0 + 1) cap4) (lsS (R.take (k + 1))).length ((lsS (R.take (k + 1))).flatMap entCells) by rw [unhide HTK, List.length_append, ← unhide HQ0, List.flatMap_append]; simpa [entCells] using hown4)
        have HB4 := hide (hbel4 _ _ (Nat.le_refl _) (unhide HB))
        clear hown4 hbel4 hgr4 hat4 hg4
        go_roundw
        case rel => exact ⟨k + 1, by omega, by go_num, HO4, HB4⟩
        case measure => simp [intOf]; omega
    · obtain rfl : k = 8 := by omega
      go_wp2_with fail
      go_ret
      exact ⟨_, rfl, by have h := unhide HO; rwa [List.take_of_length_le (by rw [unhide HLEN]; exact Nat.le_refl _)] at h, unhide HB⟩
end Go.Proofs.Ythmnfbnaeggknaa
