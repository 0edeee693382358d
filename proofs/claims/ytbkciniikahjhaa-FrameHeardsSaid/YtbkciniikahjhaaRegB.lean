/- Contracts of reg.May and of the reference's EntriesMay. Conditions: none beyond what each theorem states. -/
import Derived.Test.YtbkciniikahjhaaRegA
import Derived.Test.YtbkciniikahjhaaCalm
namespace Go.Proofs.Ytbkciniikahjhaa
open Go.RowKit
set_option linter.unusedVariables false

def above (p : Option Int) (k : Int) : Bool := match p with
  | none => true
  | some q => decide (q < k)
def entsGo : List Ent → Option Int → Bool
  | [], _ => true
  | e :: l, p => oneP e && above p e.key && entsGo l (some e.key)
def mayP (l : List Ent) : Bool := entsGo l none && decide (l.length ≤ 8)
def prevKey (l : List Ent) (k : Nat) : Option Int := if k = 0 then none else (l[k - 1]?).map (·.key)
theorem prevKey_succ (l : List Ent) (k : Nat) (e : Ent) (h : l[k]? = some e) : prevKey l (k + 1) = some e.key := by simp [prevKey, h]

theorem regMay_any (A : Option Addr) (n c : Nat) (l : List Ent) (B : Nat) (w : World) (hl : l.length = n) (hm : n ≤ maxLen) (hr : Reads w B 5 A n (l.flatMap entCells)) (hB : B ≤ w.heap.size) :
    Calls Try.prog 39 #[.slice A n c] w fun e w' => e = .returned (.bool (mayP l)) ∧ Below w.heap.size w w' := by
  have HR := hide (hr.more hB)
  have HL := hide hl
  unfold maxLen at hm
  clear hr hl
  go_enter Try.func39, Try.ntmps39
  go_wp2_with fail
  go_loopw [7] (fun i wr => ∃ (k : Nat), k ≤ n ∧ i = .int .i64 k ∧ Below w.heap.size w wr ∧ Hid (entsGo (l.drop k) (prevKey l k) = entsGo l none)) (fun i _ => n - (intOf i).toNat)
  case atStart => exact ⟨0, Nat.zero_le _, rfl, Below.refl _ _, rfl⟩
  case round =>
    obtain ⟨k, hk, rfl, hb, HI⟩ := hrel
    by_cases hlt : k < n
    · obtain ⟨b, o, e, rfl, hbl, he, hc⟩ := at_row entCells_len (by omega) ((unhide HR).below hb) hlt (unhide HL)
      have c0 : wr.cell? ⟨b, o + k * 5, none⟩ = some (.int .i64 e.key) := hc 0 _ rfl
      have c1 : wr.cell? ⟨b, o + k * 5 + 1, none⟩ = some (.int .i64 e.value) := hc 1 _ rfl
      have c2 : wr.cell? ⟨b, o + k * 5 + 2, none⟩ = some (.int .i64 e.time) := hc 2 _ rfl
      have c3 : wr.cell? ⟨b, o + k * 5 + 3, none⟩ = some (.int .i64 e.who) := hc 3 _ rfl
      have c4 : wr.cell? ⟨b, o + k * 5 + 4, none⟩ = some (.bool e.gone) := hc 4 _ rfl
      have HI2 := hide (by have h := unhide HI; rw [drop_cons l k e he, entsGo] at h; exact h)
      have HE := hide he
      have hsz := hb.size
      have hbl' : b < wr.heap.size := by omega
      clear HI hc he
      have HO := hide (show ∀ W, Calls Try.prog 62 #[.agg #[.int .i64 e.key, .int .i64 e.value, .int .i64 e.time, .int .i64 e.who, .bool e.gone]] W fun x w' => x = .returned (.bool (oneP e)) ∧ W.alloc (.cells #[.int .i64 e.key, .int .i64 e.value, .int .i64 e.time, .int .i64 e.who, .bool e.gone] 65) = w' from fun W => regOne_any e W)
      obtain ⟨wx, hwx⟩ : ∃ wx, wx = wr.alloc (.cells #[.int .i64 e.key, .int .i64 e.value, .int .i64 e.time, .int .i64 e.who, .bool e.gone] 65) := ⟨_, rfl⟩
      have hbx : Below w.heap.size w wx := by rw [hwx]; exact hb.alloc hsz _
      have HX := hide hbx
      have hnew := Blk.new wr 65 #[.int .i64 e.key, .int .i64 e.value, .int .i64 e.time, .int .i64 e.who, .bool e.gone]
      rw [← hwx] at hnew
      have f0 : ∀ n : Ext wx, n.W.cell? ⟨wr.heap.size, 0, none⟩ = some (.int .i64 e.key) := fun n => n.cell (hnew.cell 0)
      have f1 : ∀ n : Ext wx, n.W.cell? ⟨wr.heap.size, 1, none⟩ = some (.int .i64 e.value) := fun n => n.cell (hnew.cell 1)
      have f2 : ∀ n : Ext wx, n.W.cell? ⟨wr.heap.size, 2, none⟩ = some (.int .i64 e.time) := fun n => n.cell (hnew.cell 2)
      have f3 : ∀ n : Ext wx, n.W.cell? ⟨wr.heap.size, 3, none⟩ = some (.int .i64 e.who) := fun n => n.cell (hnew.cell 3)
      have f4 : ∀ n : Ext wx, n.W.cell? ⟨wr.heap.size, 4, none⟩ = some (.bool e.gone) := fun n => n.cell (hnew.cell 4)
      have HWX := hide hwx
      clear hnew hbx hwx
      have hnb : ∀ n : Ext wx, Below w.heap.size w n.W := fun n => (unhide HX).trans (n.h.mono (unhide HX).size)
      have HNB := hide hnb
      clear hnb
      cases h1 : oneP e with
      | false =>
        have HG := hide (show mayP l = false by unfold mayP; rw [← unhide HI2, h1]; rfl)
        have HO2 := hide (show ∀ W, Calls Try.prog 62 #[.agg #[.int .i64 e.key, .int .i64 e.value, .int .i64 e.time, .int .i64 e.who, .bool e.gone]] W fun x w' => x = .returned (.bool false) ∧ Below W.heap.size W w' from
          fun W => (unhide HO W).mono fun x w' ⟨hx, hw'⟩ => ⟨by rw [hx, h1], by rw [← hw']; exact (Below.refl _ _).alloc (Nat.le_refl _) _⟩)
        go_wp2_with fail
        rw [← unhide HWX]
        refine wp_region_calm (by kernel_rfl) (by kernel_rfl) ?_
        repeat (go_big_quiet_step ((go_at_call 62; exact calm_call (unhide HO2 _))))
        refine wpQuiet_nil ?_
        rintro _ ⟨nq, rfl⟩
        go_wp2_with fail
        go_ret
        exact ⟨ret_bool (unhide HG).symm, unhide HNB nq⟩
      | true =>
        have HO2 := hide (show ∀ W, Calls Try.prog 62 #[.agg #[.int .i64 e.key, .int .i64 e.value, .int .i64 e.time, .int .i64 e.who, .bool e.gone]] W fun x w' => x = .returned (.bool true) ∧ Below W.heap.size W w' from
          fun W => (unhide HO W).mono fun x w' ⟨hx, hw'⟩ => ⟨by rw [hx, h1], by rw [← hw']; exact (Below.refl _ _).alloc (Nat.le_refl _) _⟩)
        rw [h1] at HI2
        by_cases hk0 : 0 < k
        · obtain ⟨j, rfl⟩ : ∃ j, k = j + 1 := ⟨k - 1, by omega⟩
          obtain ⟨b', o', d, hA, _, hd, hcd⟩ := at_row entCells_len (by omega) ((unhide HR).below (unhide HX)) (show j < n by omega) (unhide HL)
          have d0 : ∀ n : Ext wx, n.W.cell? ⟨b, o + j * 5, none⟩ = some (.int .i64 d.key) := by
            injection hA with hA
            injection hA with hA1 hA2
            subst hA1 hA2
            exact fun n => n.cell (hcd 0 _ rfl)
          have HD := hide (prevKey_succ l j d hd)
          clear hcd hA hd hk0
          have hj0 : (0 : Int) < ((j + 1 : Nat) : Int) := by omega
          have hj1 : (j : Int) < (n : Int) := by omega
          have hj2 : (j : Int) ≤ 9223372036854775806 := by omega
          by_cases hlt2 : d.key < e.key
          · have HI3 := hide (show entsGo (l.drop (j + 1 + 1)) (prevKey l (j + 1 + 1)) = entsGo l none by
              have h := unhide HI2
              rw [unhide HD] at h
              rw [prevKey_succ l (j + 1) e (unhide HE), ← h]
              simp [above, hlt2])
            clear HI2
            go_wp2_with fail
            rw [← unhide HWX]
            refine wp_region_calm (by kernel_rfl) (by kernel_rfl) ?_
            repeat (go_big_quiet_step ((go_at_call 62; exact calm_call (unhide HO2 _))))
            refine wpQuiet_nil ?_
            rintro _ ⟨nq, rfl⟩
            go_wp2_with fail
            go_roundw
            case rel => exact ⟨j + 1 + 1, by omega, by go_num, unhide HNB nq, unhide HI3⟩
            case measure => simp [intOf]; omega
          · have HG := hide (show mayP l = false by
              have h := unhide HI2
              rw [unhide HD] at h
              unfold mayP
              rw [← h]
              simp [above, hlt2])
            have hge : e.key ≤ d.key := by omega
            clear HI2 hlt2
            go_wp2_with fail
            rw [← unhide HWX]
            refine wp_region_calm (by kernel_rfl) (by kernel_rfl) ?_
            repeat (go_big_quiet_step ((go_at_call 62; exact calm_call (unhide HO2 _))))
            refine wpQuiet_nil ?_
            rintro _ ⟨nq, rfl⟩
            go_wp2_with fail
            go_ret
            exact ⟨ret_bool (unhide HG).symm, unhide HNB nq⟩
        · obtain rfl : k = 0 := by omega
          have HI3 := hide (show entsGo (l.drop (0 + 1)) (prevKey l (0 + 1)) = entsGo l none by
            have h := unhide HI2
            rw [prevKey_succ l 0 e (unhide HE), ← h]
            simp [prevKey, above])
          clear HI2 hk0
          have e0 : o + 0 * 5 = o := by omega
          rw [e0] at c0 c1 c2 c3 c4
          go_wp2_with fail
          rw [← unhide HWX]
          refine wp_region_calm (by kernel_rfl) (by kernel_rfl) ?_
          repeat (go_big_quiet_step ((go_at_call 62; exact calm_call (unhide HO2 _))))
          refine wpQuiet_nil ?_
          rintro _ ⟨nq, rfl⟩
          go_wp2_with fail
          go_roundw
          case rel => exact ⟨0 + 1, by omega, by go_num, unhide HNB nq, unhide HI3⟩
          case measure => simp [intOf]; omega
    · obtain rfl : k = n := by omega
      have HG := hide (show mayP l = decide (k ≤ 8) by
        have h := unhide HI
        rw [List.drop_of_length_le (by rw [unhide HL]; exact Nat.le_refl _), entsGo] at h
        unfold mayP
        rw [← h, unhide HL, Bool.true_and])
      have HB := hide hb
      clear HI hb
      go_wp2_with fail
      go_ret
      exact ⟨ret_bool (by rw [unhide HG]; exact decide_eq_decide.2 (by omega)), unhide HB⟩
end Go.Proofs.Ytbkciniikahjhaa
