/- The reference's Shelves: Set, Learn. Conditions: none beyond what each theorem states. -/
import Derived.Test.YthmnfbnaeggknaaShvA
namespace Go.Proofs.Ythmnfbnaeggknaa
open Go.RowKit
set_option linter.unusedVariables false

/-- an entry is stored from offset o on -/
def putEntAt (w : World) (g o : Nat) (e : Ent) : World := ((((w.setCell ⟨g, o, none⟩ (.int .i64 e.key)).setCell ⟨g, o + 1, none⟩ (.int .i64 e.value)).setCell ⟨g, o + 2, none⟩ (.int .i64 e.time)).setCell ⟨g, o + 3, none⟩ (.int .i64 e.who)).setCell ⟨g, o + 4, none⟩ (.bool e.gone)
theorem only_putEntAt (w : World) (g o : Nat) (e : Ent) : Only (fun k => k = g) w (putEntAt w g o e) :=
  only_put (only_put (only_put (only_put (only_put (Only.refl _ _) _ _) _ _) _ _) _ _) _ _
theorem slotE_put5 (q : List Slot) (p : Nat) (s : Slot) (e : Ent) (b : Bool) (hs : q[p]? = some s) :
    ((((((slotE q).set (p * 5) (.int .i64 e.key)).set (p * 5 + 1) (.int .i64 e.value)).set (p * 5 + 2) (.int .i64 e.time)).set (p * 5 + 3) (.int .i64 e.who)).set (p * 5 + 4) (.bool e.gone)) = slotE (q.set p (e, b)) := by
  have h := put5_flat (q.map (·.1)) p s.1 e (by simp [hs])
  have e1 : (q.map (·.1)).flatMap entCells = slotE q := by rw [List.flatMap_map]; rfl
  have e2 : ((q.map (·.1)).set p e).flatMap entCells = slotE (q.set p (e, b)) := by
    rw [show (q.map (·.1)).set p e = (q.set p (e, b)).map (·.1) by rw [List.map_set], List.flatMap_map]; rfl
  rw [e1, e2] at h
  exact h
theorem slotB_set (q : List Slot) (p : Nat) (e : Ent) (b : Bool) : (slotB q).set p (.bool b) = slotB (q.set p (e, b)) := by unfold slotB; rw [List.map_set]
theorem slotB_same (q : List Slot) (p : Nat) (s : Slot) (e : Ent) (hs : q[p]? = some s) : slotB (q.set p (e, s.2)) = slotB q := by
  rw [← slotB_set]
  exact list_set_self _ _ _ (slotB_get q p s hs)
where list_set_self (l : List Value) (p : Nat) (v : Value) (h : l[p]? = some v) : l.set p v = l := by
        apply List.ext_getElem?
        intro i
        rw [List.getElem?_set]
        split
        · rename_i h1; subst h1; split
          · exact h.symm
          · rename_i h2; rw [List.getElem?_eq_none (by omega)] at h; cases h
        · rfl
theorem slotE_same (q : List Slot) (p : Nat) (s : Slot) (b : Bool) (hs : q[p]? = some s) : slotE (q.set p (s.1, b)) = slotE q := by
  have e2 : ∀ q : List Slot, slotE q = (q.map (·.1)).flatMap entCells := fun q => by rw [List.flatMap_map]; rfl
  rw [e2, e2, List.map_set]
  congr 1
  apply List.ext_getElem?
  intro i
  rw [List.getElem?_set]
  split
  · rename_i h1; subst h1; split
    · simp [hs]
    · rename_i h2; simp at h2; rw [List.getElem?_eq_none h2] at hs; cases hs
  · rfl
section
variable {w : World} {base x y n : Nat} {q : List Slot}
theorem ShvOne.putE (h : ShvOne w base x y n q) {l k : Nat} {s : Slot} (hs : q[l * 8 + k]? = some s) (e : Ent) : ShvOne (putEntAt w x (l * 40 + k * 5) e) base x y n (q.set (l * 8 + k) (e, s.2)) := by
  have h5 := ((((h.ents.set_ ((l * 8 + k) * 5) (.int .i64 e.key)).set_ ((l * 8 + k) * 5 + 1) (.int .i64 e.value)).set_ ((l * 8 + k) * 5 + 2) (.int .i64 e.time)).set_ ((l * 8 + k) * 5 + 3) (.int .i64 e.who)).set_ ((l * 8 + k) * 5 + 4) (.bool e.gone)
  rw [show (l * 8 + k) * 5 = l * 40 + k * 5 by omega] at h5
  refine ⟨?_, ?_, by rw [List.length_set]; exact h.len, h.lowx, h.lowy⟩
  · have e1 := slotE_put5 q (l * 8 + k) s e s.2 hs
    rw [show (l * 8 + k) * 5 = l * 40 + k * 5 by omega] at e1
    simp only [List.setIfInBounds_toArray] at h5
    rw [e1] at h5
    exact h5
  · rw [slotB_same q _ s e hs]
    exact h.bits.only (only_putEntAt w x _ e) (fun e => h.bits.ne_ h.ents (by decide) e)
theorem ShvOne.putB (h : ShvOne w base x y n q) {l k : Nat} {s : Slot} (hs : q[l * 8 + k]? = some s) (b : Bool) : ShvOne (w.setCell ⟨y, l * 8 + k, none⟩ (.bool b)) base x y n (q.set (l * 8 + k) (s.1, b)) := by
  refine ⟨?_, ?_, by rw [List.length_set]; exact h.len, h.lowx, h.lowy⟩
  · rw [slotE_same q _ s b hs]
    exact h.ents.far (h.ents.ne_ h.bits (by decide)) _
  · have h1 := h.bits.set_ (l * 8 + k) (.bool b)
    simp only [List.setIfInBounds_toArray] at h1
    rw [slotB_set q _ s.1 b] at h1
    exact h1
end
def timeS (r : List Slot) (t : Int) : Int := r.foldl (fun t s => if s.2 && decide (t < s.1.time) then s.1.time else t) t
def setS (q : List Slot) (l : Nat) (who key value : Int) (gone : Bool) : List Slot := q.set (l * 8 + key.toNat) (⟨key, value, timeS (rowQ q l) 0 + 1, who, gone⟩, true)
def ShvPost (base sb hb ib n c m hc ic : Nat) (A : Option Addr) (X Y : List Nat) (Q : List (List Slot)) (x y who : Nat) (q' : List Slot) (w : World) (e : Ending) (w' : World) : Prop :=
  e = .returned (.tuple #[]) ∧ ShvAt w' base sb hb ib n c m hc ic A X Y (Q.set who q') ∧ Only (fun k => k = x ∨ k = y) w w'
set_option maxRecDepth 100000 in
set_option maxHeartbeats 2000000 in
theorem shvSet_any (base sb hb ib n c m hc ic : Nat) (A : Option Addr) (X Y : List Nat) (Q : List (List Slot)) (w : World) (who l key x y : Nat) (value : Int) (gone : Bool) (q : List Slot) (h : ShvAt w base sb hb ib n c m hc ic A X Y Q) (hw : who < m) (hl : l < n) (hk : key < 8) (hx : X[who]? = some x) (hy : Y[who]? = some y) (hq : Q[who]? = some q) (ht : ∀ s ∈ rowQ q l, s.2 = true → 0 ≤ s.1.time ∧ s.1.time ≤ 2000000) :
    Calls Try.prog 51 #[.pointer (some ⟨sb, 0, none⟩), .int .i64 who, .int .i64 l, .int .i64 key, .int .i64 value, .bool gone] w (ShvPost base sb hb ib n c m hc ic A X Y Q x y who (setS q l who key value gone) w) := by
  have hn8 := h.n8
  have hm8 := h.m8
  obtain ⟨x', y', q', hx', hy', hq', y1, y2, hone⟩ := h.cs hw
  obtain rfl : q' = q := by rw [hq] at hq'; cases hq'; rfl
  obtain rfl : x' = x := by rw [hx] at hx'; cases hx'; rfl
  obtain rfl : y' = y := by rw [hy] at hy'; cases hy'; rfl
  have c1 := h.c1
  have c2 := h.c2
  have hlen := rowQ_len q' l n hone.len hl
  have HON := hide hone
  have HLEN := hide hlen
  have HH := hide h
  have hw' : (who : Int) < (m : Int) := by omega
  have hl' : (l : Int) < (n : Int) := by omega
  have hk' : (key : Int) < 8 := by omega
  obtain ⟨R, hR⟩ : ∃ R, R = rowQ q' l := ⟨_, rfl⟩
  have HR := hide hR
  have HG := hide (fun k (hk : k < 8) => rowQ_get q' l k hk)
  have HT := hide ht
  have HX := hide hx
  have HY := hide hy
  have HQ := hide hq
  clear h hone hlen hq hq' hx hy hx' hy' hR ht
  rw [← unhide HR] at HLEN HG HT
  have HF := hide (show setS q' l who key value gone = q'.set (l * 8 + key) (⟨key, value, timeS R 0 + 1, who, gone⟩, true) by rw [unhide HR]; unfold setS; rw [Int.toNat_natCast])
  go_enter Try.func51, Try.ntmps51
  go_wp2_with fail
  go_loop [12, 14] (fun t j => ∃ (k : Nat) (z : Int), k ≤ 8 ∧ j = .int .i64 k ∧ t = .int .i64 z ∧ (0 ≤ z ∧ z ≤ 2000000) ∧ Hid (timeS (R.drop k) z = timeS R 0)) (fun _ j => 8 - (intOf j).toNat)
  case atStart => exact ⟨0, 0, by omega, rfl, rfl, by omega, rfl⟩
  case round =>
    obtain ⟨k, z, hk, rfl, rfl, hz, HS⟩ := hrel
    by_cases hlt : k < 8
    · have hs : R[k]? = some (R[k]'(by rw [unhide HLEN]; exact hlt)) := List.getElem?_eq_getElem _
      generalize R[k]'(by rw [unhide HLEN]; exact hlt) = s at hs
      have hqs := (unhide HG k hlt).symm.trans hs
      have b0 := (unhide HON).cellB hqs
      have HS2 := hide (show timeS (R.drop (k + 1)) (if s.2 && decide (z < s.1.time) then s.1.time else z) = timeS R 0 by have h := unhide HS; rw [drop_cons R k s hs] at h; exact h)
      have HTS := hide (unhide HT s (List.mem_of_getElem? hs))
      obtain ⟨⟨s0, s1, s2, s3, s4⟩, b⟩ := s
      have e2 : w.cell? ⟨x', l * 40 + k * 5 + 2, none⟩ = some (.int .i64 s2) := (unhide HON).cellE hqs 2 _ rfl
      dsimp only at b0 HS2 HTS
      clear hs hqs HS
      cases b
      · go_wp2_with fail
        go_round
        case rel => exact ⟨k + 1, z, by omega, by go_num, rfl, hz, by simpa using HS2⟩
        case measure => simp [intOf]; omega
      · have hts := unhide HTS rfl
        by_cases hzt : z < s2
        · go_wp2_with fail
          go_round
          case rel => exact ⟨k + 1, s2, by omega, by go_num, rfl, hts, by simpa [hzt] using HS2⟩
          case measure => simp [intOf]; omega
        · go_wp2_with fail
          go_round
          case rel => exact ⟨k + 1, z, by omega, by go_num, rfl, hz, by simpa [hzt] using HS2⟩
          case measure => simp [intOf]; omega
    · obtain rfl : k = 8 := by omega
      have HZ := hide (show timeS R 0 = z by have h := unhide HS; rw [List.drop_of_length_le (by rw [unhide HLEN]; exact Nat.le_refl _)] at h; exact h.symm)
      have hs : R[key]? = some (R[key]'(by rw [unhide HLEN]; assumption)) := List.getElem?_eq_getElem _
      generalize R[key]'(by rw [unhide HLEN]; assumption) = s at hs
      have hqs := (unhide HG key (by assumption)).symm.trans hs
      have HQS := hide hqs
      have f0 : ∀ j, w.frozen? ⟨x', j, none⟩ = false := (unhide HON).ents.frozen
      have g0 : ∀ j, w.frozen? ⟨y', j, none⟩ = false := (unhide HON).bits.frozen
      have b0 := (unhide HON).cellB hqs
      have e0 : w.cell? ⟨x', l * 40 + key * 5, none⟩ = some (.int .i64 s.1.key) := (unhide HON).cellE hqs 0 _ rfl
      have e1 : w.cell? ⟨x', l * 40 + key * 5 + 1, none⟩ = some (.int .i64 s.1.value) := (unhide HON).cellE hqs 1 _ rfl
      have e2 : w.cell? ⟨x', l * 40 + key * 5 + 2, none⟩ = some (.int .i64 s.1.time) := (unhide HON).cellE hqs 2 _ rfl
      have e3 : w.cell? ⟨x', l * 40 + key * 5 + 3, none⟩ = some (.int .i64 s.1.who) := (unhide HON).cellE hqs 3 _ rfl
      have e4 : w.cell? ⟨x', l * 40 + key * 5 + 4, none⟩ = some (.bool s.1.gone) := (unhide HON).cellE hqs 4 _ rfl
      clear hs hqs HS
      go_upto_region 8 with fail
      obtain ⟨w5, hw5⟩ : ∃ w5, w5 = putEntAt w x' (l * 40 + key * 5) ⟨key, value, z + 1, who, gone⟩ := ⟨_, rfl⟩
      have hw6 : ((((w.setCell ⟨x', l * 40 + key * 5, none⟩ (.int .i64 key)).setCell ⟨x', l * 40 + key * 5 + 1, none⟩ (.int .i64 value)).setCell ⟨x', l * 40 + key * 5 + 2, none⟩ (.int .i64 (z + 1))).setCell ⟨x', l * 40 + key * 5 + 3, none⟩ (.int .i64 who)).setCell ⟨x', l * 40 + key * 5 + 4, none⟩ (.bool gone) = w5 := hw5.symm
      rw [hw6]
      clear hw6
      have hO5 : Only (fun k => k = x') w w5 := by rw [hw5]; exact only_putEntAt _ _ _ _
      have h5 := (unhide HON).putE (unhide HQS) ⟨key, value, z + 1, who, gone⟩
      rw [← hw5] at h5
      have hA5 := (unhide HH).put (unhide HX) (unhide HY) (unhide HQ) h5 (hO5.mono fun _ _ e => Or.inl e)
      have q5 : (q'.set (l * 8 + key) ((⟨key, value, z + 1, who, gone⟩ : Ent), s.2))[l * 8 + key]? = some ((⟨key, value, z + 1, who, gone⟩ : Ent), s.2) := List.getElem?_set_self (List.getElem?_eq_some_iff.1 (unhide HQS)).1
      have h6 := h5.putB q5 true
      rw [List.set_set] at h6
      have p2 := hA5.c2
      obtain ⟨x2, y2', q2, j1, j2, j3, j4, j5, _⟩ := hA5.cs hw
      obtain rfl : y2' = y' := by have := unhide HY; rw [j2] at this; cases this; rfl
      have pb := h5.cellB q5
      have pf := h5.bits.frozen (l * 8 + key)
      have HO5 := hide hO5
      have HA5 := hide hA5
      have H6 := hide h6
      clear hw5 hO5 h5 hA5 h6 q5 j1 j2 j3 j4 c1 y1 y2 e0 e1 e2 e3 e4 f0 g0 b0
      go_wp2_with fail
      go_end0
      have hO6 : Only (fun k => k = y2') w5 (w5.setCell ⟨y2', l * 8 + key, none⟩ (.bool true)) := only_put (Only.refl _ _) _ _
      have hOO : Only (fun k => k = x' ∨ k = y2') w (w5.setCell ⟨y2', l * 8 + key, none⟩ (.bool true)) := ((unhide HO5).mono fun _ _ e => Or.inl e).trans hO6 (fun _ _ e => Or.inr e)
      refine ⟨rfl, ?_, hOO⟩
      rw [unhide HF, unhide HZ]
      exact (unhide HH).put (unhide HX) (unhide HY) (unhide HQ) (unhide H6) hOO
/-- an entry is learnt -/
def learnS (q : List Slot) (l : Nat) (e : Ent) : List Slot :=
  match q[l * 8 + e.key.toNat]? with
  | some (x, b) => if !b || newerP e x then q.set (l * 8 + e.key.toNat) (e, true) else q
  | none => q
theorem list_same {α : Type} (l : List α) (p : Nat) (v : α) (h : l[p]? = some v) : l.set p v = l := by
  apply List.ext_getElem?
  intro i
  rw [List.getElem?_set]
  split
  · rename_i h1; subst h1; split
    · exact h.symm
    · rename_i h2; rw [List.getElem?_eq_none (by omega)] at h; cases h
  · rfl
set_option maxRecDepth 100000 in
set_option maxHeartbeats 2000000 in
theorem shvLearn_any (base sb hb ib n c m hc ic : Nat) (A : Option Addr) (X Y : List Nat) (Q : List (List Slot)) (w : World) (who l x y : Nat) (e : Ent) (q : List Slot) (h : ShvAt w base sb hb ib n c m hc ic A X Y Q) (hw : who < m) (hl : l < n) (hk : 0 ≤ e.key ∧ e.key < 8) (hx : X[who]? = some x) (hy : Y[who]? = some y) (hq : Q[who]? = some q) :
    Calls Try.prog 50 #[.pointer (some ⟨sb, 0, none⟩), .int .i64 who, .int .i64 l, entV e] w (ShvPost base sb hb ib n c m hc ic A X Y Q x y who (learnS q l e) w) := by
  have hn8 := h.n8
  have hm8 := h.m8
  obtain ⟨e0, e1, e2, e3, e4⟩ := e
  dsimp only at hk
  obtain ⟨key, rfl⟩ : ∃ z : Nat, e0 = z := ⟨e0.toNat, by omega⟩
  have hk8 : key < 8 := by omega
  obtain ⟨wx, hwx⟩ : ∃ wx, wx = w.alloc (.cells #[.int .i64 key, .int .i64 e1, .int .i64 e2, .int .i64 e3, .bool e4] 25) := ⟨_, rfl⟩
  have hbx : Below w.heap.size w wx := by rw [hwx]; exact (Below.refl _ _).alloc (Nat.le_refl _) _
  obtain ⟨p, hp⟩ : ∃ p, p = w.heap.size := ⟨_, rfl⟩
  have kx : Blk wx p 25 #[.int .i64 key, .int .i64 e1, .int .i64 e2, .int .i64 e3, .bool e4] := by rw [hwx, hp]; exact Blk.new w 25 _
  have hX := h.calm hbx
  obtain ⟨x', y', q', hx', hy', hq', y1, y2, hone⟩ := hX.cs hw
  obtain rfl : q' = q := by rw [hq] at hq'; cases hq'; rfl
  obtain rfl : x' = x := by rw [hx] at hx'; cases hx'; rfl
  obtain rfl : y' = y := by rw [hy] at hy'; cases hy'; rfl
  have c1 := hX.c1
  have c2 := hX.c2
  have hlen := hone.len
  have hs : q'[l * 8 + key]? = some (q'[l * 8 + key]'(by omega)) := List.getElem?_eq_getElem _
  generalize q'[l * 8 + key]'(by omega) = s at hs
  have HF := hide (show learnS q' l ⟨key, e1, e2, e3, e4⟩ = if !s.2 || newerP ⟨key, e1, e2, e3, e4⟩ s.1 then q'.set (l * 8 + key) (⟨key, e1, e2, e3, e4⟩, true) else q' by unfold learnS; dsimp only; rw [Int.toNat_natCast, hs])
  have b0 := hone.cellB hs
  obtain ⟨⟨s0, s1, s2, s3, s4⟩, b⟩ := s
  have z0 : wx.cell? ⟨x', l * 40 + key * 5, none⟩ = some (.int .i64 s0) := hone.cellE hs 0 _ rfl
  have z1 : wx.cell? ⟨x', l * 40 + key * 5 + 1, none⟩ = some (.int .i64 s1) := hone.cellE hs 1 _ rfl
  have z2 : wx.cell? ⟨x', l * 40 + key * 5 + 2, none⟩ = some (.int .i64 s2) := hone.cellE hs 2 _ rfl
  have z3 : wx.cell? ⟨x', l * 40 + key * 5 + 3, none⟩ = some (.int .i64 s3) := hone.cellE hs 3 _ rfl
  have z4 : wx.cell? ⟨x', l * 40 + key * 5 + 4, none⟩ = some (.bool s4) := hone.cellE hs 4 _ rfl
  have k0 : wx.cell? ⟨p, 0, none⟩ = some (.int .i64 key) := kx.cell 0
  have k1 : wx.cell? ⟨p, 1, none⟩ = some (.int .i64 e1) := kx.cell 1
  have k2 : wx.cell? ⟨p, 2, none⟩ = some (.int .i64 e2) := kx.cell 2
  have k3 : wx.cell? ⟨p, 3, none⟩ = some (.int .i64 e3) := kx.cell 3
  have k4 : wx.cell? ⟨p, 4, none⟩ = some (.bool e4) := kx.cell 4
  dsimp only at b0 HF
  have a0 := fun n : Ext wx => n.cell k0
  have a1 := fun n : Ext wx => n.cell k1
  have a2 := fun n : Ext wx => n.cell k2
  have a3 := fun n : Ext wx => n.cell k3
  have a4 := fun n : Ext wx => n.cell k4
  have a5 := fun n : Ext wx => n.cell z0
  have a6 := fun n : Ext wx => n.cell z1
  have a7 := fun n : Ext wx => n.cell z2
  have a8 := fun n : Ext wx => n.cell z3
  have a9 := fun n : Ext wx => n.cell z4
  have a10 := fun n : Ext wx => n.cell b0
  have a11 := fun n : Ext wx => n.cell c1
  have a12 := fun n : Ext wx => n.cell c2
  have a13 := fun n : Ext wx => n.cell y1
  have a14 := fun n : Ext wx => n.cell y2
  have hw' : (who : Int) < (m : Int) := by omega
  have hl' : (l : Int) < (n : Int) := by omega
  have hk' : (key : Int) < 8 := by omega
  have HNW := hide (fun W => entryNewer_any ⟨key, e1, e2, e3, e4⟩ ⟨s0, s1, s2, s3, s4⟩ W)
  have HH := hide h
  have HWX := hide hwx
  have HP := hide hp
  have HBX := hide hbx
  have HX := hide hx
  have HY := hide hy
  have HQ := hide hq
  have HS := hide hs
  have HKX := hide kx
  clear h hX hx hy hq hs hx' hy' hq' hone hlen hwx hp hbx kx z0 z1 z2 z3 z4 k0 k1 k2 k3 k4 b0 c1 c2 y1 y2
  unfold entV
  dsimp only
  go_enter Try.func50, Try.ntmps50
  go_upto_region 1 with fail
  rw [← unhide HWX, ← unhide HP]
  cases b
  case' false =>
    refine wp_region_calm (by kernel_rfl) (by kernel_rfl) ?_
    repeat (go_big_quiet_step (fail))
    refine wpQuiet_nil ?_
    rintro _ ⟨nq, rfl⟩
    rw [show (!false || newerP ⟨key, e1, e2, e3, e4⟩ ⟨s0, s1, s2, s3, s4⟩) = true from rfl, if_pos rfl] at HF
  case' true =>
    generalize newerP ⟨key, e1, e2, e3, e4⟩ ⟨s0, s1, s2, s3, s4⟩ = nb at HNW HF
    refine wp_region_calm (by kernel_rfl) (by kernel_rfl) ?_
    repeat (go_big_quiet_step ((go_at_call 11; exact calm_call (unhide HNW _))))
    refine wpQuiet_nil ?_
    rintro _ ⟨nq, rfl⟩
    cases nb
    case' true =>
      rw [show (!true || true) = true from rfl, if_pos rfl] at HF
  case' true.h.refine_2.false =>
    rw [show (!true || false) = false from rfl, if_neg (by simp)] at HF
    have HW := hide ((unhide HBX).trans (nq.h.mono (unhide HBX).size))
    go_wp2_with fail
    go_end0
    rw [unhide HF]
    exact ⟨rfl, by rw [list_same Q who q' (unhide HQ)]; exact (unhide HH).calm (unhide HW), Only.of_below (unhide HW) (fun x h1 h2 => by omega)⟩
  all_goals
    have a0 := a0 nq
    have a1 := a1 nq
    have a2 := a2 nq
    have a3 := a3 nq
    have a4 := a4 nq
    have a5 := a5 nq
    have a6 := a6 nq
    have a7 := a7 nq
    have a8 := a8 nq
    have a9 := a9 nq
    have a10 := a10 nq
    have a11 := a11 nq
    have a12 := a12 nq
    have a13 := a13 nq
    have a14 := a14 nq
    have hnq := nq.h
    have hpW := Nat.lt_of_lt_of_le (unhide HKX).lt hnq.size
    have HH2 := hide ((unhide HH).calm ((unhide HBX).trans (hnq.mono (unhide HBX).size)))
    have HB2 := hide ((unhide HBX).trans (hnq.mono (unhide HBX).size))
    have kW := (unhide HKX).below hnq (unhide HKX).lt
    generalize nq.W = W at *
    have hone := (unhide HH2).st who x' y' q' (unhide HX) (unhide HY) (unhide HQ)
    have hpx : x' ≠ p := hone.ents.ne_ kW (by decide)
    have hpx' : p ≠ x' := fun e => hpx e.symm
    have f0 := hone.ents.frozen
    have g0 := hone.bits.frozen
    have HON := hide hone
    have HKW := hide kW
    clear hone kW HNW
    go_upto_region 2 with fail
    refine wp_region_draw_tail 13 (by kernel_rfl) (by kernel_rfl) ?_
    simp only [List.take_succ_cons, List.take_zero, List.drop_succ_cons, List.drop_zero]
    repeat (go_big_quiet_step (fail))
    refine wpQuiet_nil ?_
    rintro _ ⟨na, rfl⟩
    go_upto_region 3 with fail
    obtain ⟨wd, hwd⟩ : ∃ wd, wd = W.drewN na := ⟨_, rfl⟩
    have hbd : Below W.heap.size W wd := by rw [hwd]; exact belowN (Below.refl _ _) _
    rw [← hwd]
    obtain ⟨w5, hw5⟩ : ∃ w5, w5 = putEntAt wd x' (l * 40 + key * 5) ⟨key, e1, e2, e3, e4⟩ := ⟨_, rfl⟩
    have hw6 : ((((wd.setCell ⟨x', l * 40 + key * 5, none⟩ (.int .i64 key)).setCell ⟨x', l * 40 + key * 5 + 1, none⟩ (.int .i64 e1)).setCell ⟨x', l * 40 + key * 5 + 2, none⟩ (.int .i64 e2)).setCell ⟨x', l * 40 + key * 5 + 3, none⟩ (.int .i64 e3)).setCell ⟨x', l * 40 + key * 5 + 4, none⟩ (.bool e4) = w5 := hw5.symm
    rw [hw6]
    clear hw6
    have hAd := (unhide HH2).calm hbd
    have hod := (unhide HON).calm hbd
    have hO5 : Only (fun k => k = x') wd w5 := by rw [hw5]; exact only_putEntAt _ _ _ _
    have h5 := hod.putE (unhide HS) ⟨key, e1, e2, e3, e4⟩
    rw [← hw5] at h5
    have hA5 := hAd.put (unhide HX) (unhide HY) (unhide HQ) h5 (hO5.mono fun _ _ e => Or.inl e)
    have k5 := ((unhide HKW).below hbd (unhide HKW).lt).only hO5 hpx'
    have k50 : w5.cell? ⟨p, 0, none⟩ = some (.int .i64 key) := k5.cell 0
    have q5 : ∀ bb : Bool, (q'.set (l * 8 + key) ((⟨key, e1, e2, e3, e4⟩ : Ent), bb))[l * 8 + key]? = some ((⟨key, e1, e2, e3, e4⟩ : Ent), bb) := fun _ => List.getElem?_set_self (List.getElem?_eq_some_iff.1 (unhide HS)).1
    have h6 := h5.putB (q5 _) true
    rw [List.set_set] at h6
    have p2 := hA5.c2
    obtain ⟨x2, y2', q2, j1, j2, j3, j4, j5, _⟩ := hA5.cs hw
    obtain rfl : y2' = y' := by have := unhide HY; rw [j2] at this; cases this; rfl
    have pb := h5.cellB (q5 _)
    have pf := h5.bits.frozen (l * 8 + key)
    have HO5 := hide hO5
    have H6 := hide h6
    have HAD := hide hAd
    have HBD := hide ((unhide HB2).trans (hbd.mono (unhide HB2).size))
    clear hw5 hO5 h5 hA5 h6 q5 j1 j2 j3 j4 k5 a0 a1 a2 a3 a4 a5 a6 a7 a8 a9 a10 a11 a12 a13 a14 f0 g0 hAd hod hbd hwd
    refine wp_region_draw_tail 12 (by kernel_rfl) (by kernel_rfl) ?_
    simp only [List.take_succ_cons, List.take_zero, List.drop_succ_cons, List.drop_zero]
    repeat (go_big_quiet_step (fail))
    refine wpQuiet_nil ?_
    rintro _ ⟨nb, rfl⟩
    go_wp2_with fail
    go_end0
    have h6' := (unhide H6)
    have hO6 : Only (fun k => k = y2') w5 (w5.setCell ⟨y2', l * 8 + key, none⟩ (.bool true)) := only_put (Only.refl _ _) _ _
    have hOO : Only (fun k => k = x' ∨ k = y2') wd (w5.setCell ⟨y2', l * 8 + key, none⟩ (.bool true)) := ((unhide HO5).mono fun _ _ e => Or.inl e).trans hO6 (fun _ _ e => Or.inr e)
    have hD : Below (w5.setCell ⟨y2', l * 8 + key, none⟩ (.bool true)).heap.size (w5.setCell ⟨y2', l * 8 + key, none⟩ (.bool true)) ((w5.drewN nb).setCell ⟨y2', l * 8 + key, none⟩ (.bool true)) := belowN (Below.refl _ _) nb
    refine ⟨rfl, ?_, ((Only.of_below (unhide HBD) (fun x h1 h2 => by omega)).trans hOO (fun _ _ e => e)).calm hD⟩
    rw [unhide HF]
    exact ((unhide HAD).put (unhide HX) (unhide HY) (unhide HQ) h6' hOO).calm hD
end Go.Proofs.Ythmnfbnaeggknaa
