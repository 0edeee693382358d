/- slices.IndexFunc and ContainsFunc over rows of entries. Conditions: none beyond what each theorem states. -/
import Derived.Test.YtbkciniikahjhaaRumB
namespace Go.Proofs.Ytbkciniikahjhaa
open Go.RowKit
set_option linter.unusedVariables false

def idxL {α : Type} (f : α → Bool) : List α → Nat → Int
  | [], _ => -1
  | z :: l, k => if f z then k else idxL f l (k + 1)
theorem idxL_any {α : Type} (f : α → Bool) : ∀ (l : List α) (k : Nat), decide (0 ≤ idxL f l k) = l.any f
  | [], k => by simp [idxL]
  | z :: l, k => by
    cases hf : f z with
    | true => simp [idxL, hf]
    | false => simp only [idxL, hf, List.any_cons, Bool.false_or]; exact idxL_any f l (k + 1)
set_option maxHeartbeats 1000000 in
theorem entIndex_any (fn : FuncId) (f : EnR → Bool) (A : Option Addr) (n c : Nat) (rs : List EnR) (w : World) (hl : rs.length = n) (hm : n ≤ maxLen)
    (hr : Reads w w.heap.size 1 A n (rs.map EnR.val)) 
    (hrun : ∀ args W, (callFunc fn args).run Try.prog W = .ok (.enter fn args) W)
    (h : ∀ r W, r ∈ rs → Below w.heap.size w W → Calls Try.prog fn #[r.val] W fun x w' => x = .returned (.bool (f r)) ∧ Below w.heap.size w w') :
    Calls Try.prog 61 #[.slice A n c, .func (.func fn) #[] #[]] w fun e w' => e = .returned (.int .i64 (idxL f rs 0)) ∧ Below w.heap.size w w' := by
  have HR := hide hr
  have HL := hide hl
  have H := hide h
  unfold maxLen at hm
  clear hr hl h
  go_enter Try.func61, Try.ntmps61
  go_wp2_with fail
  go_loopw [8] (fun i wr => ∃ (k : Nat), k ≤ n ∧ i = .int .i64 k ∧ Hid (Below w.heap.size w wr) ∧ Hid (idxL f (rs.drop k) k = idxL f rs 0)) (fun i _ => n - (intOf i).toNat)
  case atStart => exact ⟨0, Nat.zero_le _, rfl, Below.refl _ _, rfl⟩
  case round =>
    obtain ⟨k, hk, rfl, HW, HX⟩ := hrel
    by_cases hlt : k < n
    · obtain ⟨b, o, r, rfl, hbl, hz, hc⟩ := val_at EnR.val ((unhide HR).below (unhide HW)) hlt
      have HX2 := hide (by have h := unhide HX; rw [drop_cons rs k r hz, idxL] at h; exact h)
      have H2 := hide (unhide H r wr (List.mem_of_getElem? hz) (unhide HW))
      clear HX hz
      obtain ⟨v, hv⟩ : ∃ v, v = r.val := ⟨_, rfl⟩
      rw [← hv] at H2 hc
      clear hv
      cases hf : f r with
      | true =>
        have HX3 := hide (by have h := unhide HX2; rw [if_pos hf] at h; exact h)
        rw [hf] at H2
        clear HX2
        go_wp2_with fail
        refine (unhide H2).mono ?_
        rintro _ w2 ⟨rfl, hb2⟩
        have HB2 := hide hb2
        clear hb2
        go_wp2_with fail
        go_ret
        exact ⟨ret_int (unhide HX3), unhide HB2⟩
      | false =>
        have HX3 := hide (by have h := unhide HX2; rw [if_neg (by rw [hf]; simp)] at h; exact h)
        rw [hf] at H2
        clear HX2
        go_wp2_with fail
        refine (unhide H2).mono ?_
        rintro _ w2 ⟨rfl, hb2⟩
        have HB2 := hide hb2
        clear hb2
        go_wp2_with fail
        go_roundw
        case rel => exact ⟨k + 1, by omega, by go_num, HB2, unhide HX3⟩
        case measure => simp [intOf]; omega
    · obtain rfl : k = n := by omega
      have HF := hide (show idxL f rs 0 = -1 by
        have h := unhide HX
        rw [List.drop_of_length_le (by rw [unhide HL]; exact Nat.le_refl _)] at h
        exact h.symm)
      clear HX
      go_wp2_with fail
      go_ret
      exact ⟨ret_int (unhide HF).symm, unhide HW⟩
theorem entContains_any (fn : FuncId) (f : EnR → Bool) (A : Option Addr) (n c : Nat) (rs : List EnR) (w : World) (hl : rs.length = n) (hm : n ≤ maxLen)
    (hr : Reads w w.heap.size 1 A n (rs.map EnR.val)) 
    (hrun : ∀ args W, (callFunc fn args).run Try.prog W = .ok (.enter fn args) W)
    (h : ∀ r W, r ∈ rs → Below w.heap.size w W → Calls Try.prog fn #[r.val] W fun x w' => x = .returned (.bool (f r)) ∧ Below w.heap.size w w') :
    Calls Try.prog 37 #[.slice A n c, .func (.func fn) #[] #[]] w fun e w' => e = .returned (.bool (rs.any f)) ∧ Below w.heap.size w w' := by
  have H := hide (entIndex_any fn f A n c rs w hl hm hr hrun h)
  have HF := hide (idxL_any f rs 0)
  obtain ⟨x, hx⟩ : ∃ x, idxL f rs 0 = x := ⟨_, rfl⟩
  rw [hx] at H HF
  clear hl hr hrun h hm hx
  go_enter Try.func37, Try.ntmps37
  go_wp2_with fail
  refine (unhide H).mono ?_
  rintro _ w2 ⟨rfl, hb2⟩
  have HB2 := hide hb2
  clear hb2
  go_wp2_with fail
  go_ret
  exact ⟨ret_bool (by rw [← unhide HF]), unhide HB2⟩
theorem rumClo_any (A : Option Addr) (n c : Nat) (l : List Ent) (B : Nat) (w : World) (hl : l.length = n) (hm : n ≤ maxLen) (hr : Reads w B 5 A n (l.flatMap entCells)) (hB : B ≤ w.heap.size) :
    Calls Try.prog 38 #[.slice A n c] w fun x w' => x = .returned (.bool (!mayP l)) ∧ Below w.heap.size w w' := by
  have H := hide (regMay_any A n c l B w hl hm hr hB)
  clear hl hm hr
  generalize mayP l = x at H
  go_enter Try.func38, Try.ntmps38
  go_wp2_with fail
  refine (unhide H).mono ?_
  rintro _ w2 ⟨rfl, hb2⟩
  have HB2 := hide hb2
  clear hb2
  go_wp2_with fail
  go_ret
  exact ⟨rfl, unhide HB2⟩
theorem rumClo_enters (args : Array Value) (W : World) : (callFunc 38 args).run Try.prog W = .ok (.enter 38 args) W :=
  callFunc_enters Try.func38 (by kernel_rfl) rfl args W
end Go.Proofs.Ytbkciniikahjhaa
