/- The reference's slotFields. Conditions: none beyond what each theorem states. -/
import Derived.Test.YtbkciniikahjhaaRumF
import Derived.Test.YtbkciniikahjhaaWireD
namespace Go.Proofs.Ytbkciniikahjhaa
open Go.RowKit
set_option linter.unusedVariables false

theorem keyE_cons (e : Ent) (l : List Ent) (x : Int) : keyE (e :: l) x = if e.key = x then some e else keyE l x := by
  unfold keyE
  rw [List.find?_cons]
  by_cases h : e.key = x <;> simp [h]
theorem reads_at0 {w : World} {g : Nat} {t : TypeId} {cs : List Value} (h : Blk w g t cs.toArray) (size n : Nat) (hs : cs.length = n * size) : Reads w w.heap.size size (some ⟨g, 0, none⟩) n cs := by
  refine ⟨hs, fun _ => ⟨⟨g, 0, none⟩, rfl, h.lt, fun j u hj => ?_⟩⟩
  have e : (⟨g, 0, none⟩ : Addr).add j = ⟨g, j, none⟩ := by unfold Addr.add; split <;> simp_all
  rw [e, h.cell j]
  simpa using hj
set_option maxRecDepth 100000 in
set_option maxHeartbeats 2000000 in
theorem slotFields_any (A : Option Addr) (n c : Nat) (l : List Ent) (k : Nat) (B : Nat) (w : World) (hl : l.length = n) (hm : n ≤ maxLen) (hr : Reads w B 5 A n (l.flatMap entCells)) (hB : B ≤ w.heap.size) :
    Calls Try.prog 44 #[.slice A n c, .int .i64 k] w fun e w' => ∃ g c', e = .returned (.slice (some ⟨g, 0, none⟩) (slotFs l k).length c') ∧ Blk w' g 53 ((slotFs l k).flatMap fldCells).toArray ∧ w.heap.size ≤ g ∧ Below w.heap.size w w' := by
  unfold maxLen at hm
  have HR := hide (hr.more hB)
  have HL := hide hl
  clear hl hr
  go_enter Try.func44, Try.ntmps44
  go_wp2_with fail
  go_loopw [10] (fun j wr => ∃ (i : Nat), i ≤ n ∧ j = .int .i64 i ∧ Hid (keyE (l.drop i) k = keyE l k) ∧ Below w.heap.size w wr) (fun j _ => n - (intOf j).toNat)
  case atStart => exact ⟨0, Nat.zero_le _, rfl, rfl, Below.refl _ _⟩
  case round =>
    obtain ⟨i, hi, rfl, HK, hz⟩ := hrel
    by_cases hlt : i < n
    · obtain ⟨be, oe, e, rfl, _, he, hce⟩ := at_row entCells_len (by omega) ((unhide HR).below hz) hlt (unhide HL)
      have z0 : wr.cell? ⟨be, oe + i * 5, none⟩ = some (.int .i64 e.key) := hce 0 _ rfl
      have z1 : wr.cell? ⟨be, oe + i * 5 + 1, none⟩ = some (.int .i64 e.value) := hce 1 _ rfl
      have z2 : wr.cell? ⟨be, oe + i * 5 + 2, none⟩ = some (.int .i64 e.time) := hce 2 _ rfl
      have z3 : wr.cell? ⟨be, oe + i * 5 + 3, none⟩ = some (.int .i64 e.who) := hce 3 _ rfl
      have z4 : wr.cell? ⟨be, oe + i * 5 + 4, none⟩ = some (.bool e.gone) := hce 4 _ rfl
      have HK2 := hide (show (if e.key = k then some e else keyE (l.drop (i + 1)) k) = keyE l k by have h := unhide HK; rw [drop_cons l i e he, keyE_cons] at h; exact h)
      have hza : Below w.heap.size w (wr.alloc (.cells #[.int .i64 e.key, .int .i64 e.value, .int .i64 e.time, .int .i64 e.who, .bool e.gone] 65)) := hz.alloc hz.size _
      have HZA := hide hza
      clear HK he hce hza
      by_cases hk : e.key = k
      · have hk' : (e.key == (k : Int)) = true := by simpa using hk
        have HE := hide (show keyE l k = some e by have h := unhide HK2; rw [if_pos hk] at h; exact h.symm)
        clear HK2 hk
        have HG := hide (show slotFs l k = [(1, 1), (1, (goneN e : Int)), (8, e.value), (21, e.time), (3, e.who)] by unfold slotFs; rw [unhide HE])
        obtain ⟨ek, ev, et, ew, eg⟩ := e
        dsimp only at z0 z1 z2 z3 z4 hk' HZA HG
        cases eg
        · go_wp2_with fail
          go_ret
          rw [unhide HG]
          refine ⟨_, _, rfl, ?_, by have := (unhide HZA).size; simp at this ⊢; omega, (unhide HZA).alloc (unhide HZA).size _⟩
          show Blk _ _ _ ([(1, 1), (1, 0), (8, ev), (21, et), (3, ew)].flatMap fldCells).toArray
          have h := Blk.new (wr.alloc (.cells #[.int .i64 ek, .int .i64 ev, .int .i64 et, .int .i64 ew, .bool false] 65)) 53 #[.int .i64 1, .int .i64 1, .int .i64 1, .int .i64 0, .int .i64 8, .int .i64 ev, .int .i64 21, .int .i64 et, .int .i64 3, .int .i64 ew]
          simpa [fldCells] using h
        · go_wp2_with fail
          go_ret
          rw [unhide HG]
          refine ⟨_, _, rfl, ?_, by have := (unhide HZA).size; simp at this ⊢; omega, (unhide HZA).alloc (unhide HZA).size _⟩
          show Blk _ _ _ ([(1, 1), (1, 1), (8, ev), (21, et), (3, ew)].flatMap fldCells).toArray
          have h := Blk.new (wr.alloc (.cells #[.int .i64 ek, .int .i64 ev, .int .i64 et, .int .i64 ew, .bool true] 65)) 53 #[.int .i64 1, .int .i64 1, .int .i64 1, .int .i64 1, .int .i64 8, .int .i64 ev, .int .i64 21, .int .i64 et, .int .i64 3, .int .i64 ew]
          simpa [fldCells] using h
      · have hk' : (e.key == (k : Int)) = false := by simpa using hk
        have HK3 := hide (show keyE (l.drop (i + 1)) k = keyE l k by have h := unhide HK2; rw [if_neg hk] at h; exact h)
        clear HK2 hk
        go_wp2_with fail
        go_roundw
        case rel => exact ⟨i + 1, by omega, by go_num, HK3, unhide HZA⟩
        case measure => simp [intOf]; omega
    · obtain rfl : i = n := by omega
      have HG := hide (show slotFs l k = [(34, 0)] by
        have h := unhide HK
        rw [List.drop_of_length_le (by rw [unhide HL]; exact Nat.le_refl _)] at h
        unfold slotFs
        rw [← h]
        rfl)
      clear HK
      go_wp2_with fail
      go_ret
      rw [unhide HG]
      exact ⟨_, _, rfl, Blk.new _ 53 ([(34, 0)].flatMap fldCells).toArray, hz.size, hz.alloc hz.size _⟩
theorem own_set1 {w : World} {base g n c : Nat} {e : TypeId} {xs : List Value} (h : w.ownsRow base e 1 (.slice (some ⟨g, 0, none⟩) n c) n xs) (i : Nat) (u : Value) (hi : i < n) : (w.setCell ⟨g, i, none⟩ u).ownsRow base e 1 (.slice (some ⟨g, 0, none⟩) n c) n (xs.set i u) := by
  rcases h.2 with ⟨h1, _⟩ | ⟨g', cap, cur, h1, hb, hh, hnc, hcm, hs, ht⟩
  · simp at h1
  injection h1 with h1 _ h2
  injection h1 with h1
  injection h1 with h1
  subst h1 h2
  have hk : Blk w g e cur := hh
  refine ⟨by rw [List.length_set]; exact h.1, .inr ⟨g, c, cur.setIfInBounds i u, rfl, hb, hk.set_ i u, hnc, hcm, by simpa using hs, ?_⟩⟩
  rw [Array.toList_setIfInBounds, List.take_set, ht]
end Go.Proofs.Ytbkciniikahjhaa
