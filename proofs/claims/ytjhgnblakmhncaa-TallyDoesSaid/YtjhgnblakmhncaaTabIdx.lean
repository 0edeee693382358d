/- Contracts of slices.IndexFunc and ContainsFunc over rows of numbers, for a function value that keeps whatever is asked of the world ('Inv'). Conditions: none beyond what each theorem states. -/
import Derived.Test.YtjhgnblakmhncaaTab
namespace Go.Proofs.Ytjhgnblakmhncaa
open Go.RowKit
set_option linter.unusedVariables false

def idxR (f : IRw → Bool) : List IRw → Nat → Int
  | [], _ => -1
  | z :: l, k => if f z then k else idxR f l (k + 1)
theorem idxR_any (f : IRw → Bool) : ∀ (l : List IRw) (k : Nat), decide (0 ≤ idxR f l k) = l.any f
  | [], k => by simp [idxR]
  | z :: l, k => by
    cases hf : f z with
    | true => simp [idxR, hf]
    | false => simp only [idxR, hf, List.any_cons, Bool.false_or]; exact idxR_any f l (k + 1)

theorem rowIndex_any (fn : FuncId) (cap : Array Value) (f : IRw → Bool) (A : Option Addr) (n c : Nat) (rs : List IRw) (B : Nat) (Inv : World → Prop) (w : World) (hm : n ≤ maxLen)
    (hr : ∀ W, Inv W → Tab W B A n rs) (hI : Inv w)
    (hrun : ∀ args W, (callFunc fn args).run Try.prog W = .ok (.enter fn args) W)
    (h : ∀ r W, r ∈ rs → Inv W → Calls Try.prog fn (#[.slice r.A r.n r.c] ++ cap) W fun x w' => x = .returned (.bool (f r)) ∧ Inv w') :
    Calls Try.prog 29 #[.slice A n c, .func (.func fn) #[] cap] w fun e w' => e = .returned (.int .i64 (idxR f rs 0)) ∧ Inv w' := by
  have HR := hide hr
  have H := hide h
  have HI := hide hI
  have HL := hide (hr w hI).1
  unfold maxLen at hm
  clear hr h hI
  go_enter Try.func29, Try.ntmps29
  go_wp2_with fail
  go_loopw [8] (fun i wr => ∃ (k : Nat), k ≤ n ∧ i = .int .i64 k ∧ Hid (Inv wr) ∧ Hid (idxR f (rs.drop k) k = idxR f rs 0)) (fun i _ => n - (intOf i).toNat)
  case atStart => exact ⟨0, Nat.zero_le _, rfl, HI, rfl⟩
  case round =>
    obtain ⟨k, hk, rfl, HW, HX⟩ := hrel
    by_cases hlt : k < n
    · obtain ⟨b, o, r, rfl, hbl, hz, hc, _⟩ := at_tab (unhide HR _ (unhide HW)) hlt
      have HX2 := hide (by have h := unhide HX; rw [drop_cons rs k r hz, idxR] at h; exact h)
      have H2 := hide (unhide H r wr (List.mem_of_getElem? hz) (unhide HW))
      clear HX hz
      cases hf : f r with
      | true =>
        have HX3 := hide (by have h := unhide HX2; rw [if_pos hf] at h; exact h)
        rw [hf] at H2
        clear HX2
        go_wp2_with fail
        refine (unhide H2).mono ?_
        rintro _ w2 ⟨rfl, hb2⟩
        have HB2 := hide hb2
        clear hb2
        go_wp2_with fail
        go_ret
        exact ⟨ret_int (unhide HX3), unhide HB2⟩
      | false =>
        have HX3 := hide (by have h := unhide HX2; rw [if_neg (by rw [hf]; simp)] at h; exact h)
        rw [hf] at H2
        clear HX2
        go_wp2_with fail
        refine (unhide H2).mono ?_
        rintro _ w2 ⟨rfl, hb2⟩
        have HB2 := hide hb2
        clear hb2
        go_wp2_with fail
        go_roundw
        case rel => exact ⟨k + 1, by omega, by go_num, HB2, unhide HX3⟩
        case measure => simp [intOf]; omega
    · obtain rfl : k = n := by omega
      have HF := hide (show idxR f rs 0 = -1 by
        have h := unhide HX
        rw [List.drop_of_length_le (by rw [unhide HL]; exact Nat.le_refl _)] at h
        exact h.symm)
      clear HX
      go_wp2_with fail
      go_ret
      exact ⟨ret_int (unhide HF).symm, unhide HW⟩

theorem rowContains_any (fn : FuncId) (cap : Array Value) (f : IRw → Bool) (A : Option Addr) (n c : Nat) (rs : List IRw) (B : Nat) (Inv : World → Prop) (w : World) (hm : n ≤ maxLen)
    (hr : ∀ W, Inv W → Tab W B A n rs) (hI : Inv w)
    (hrun : ∀ args W, (callFunc fn args).run Try.prog W = .ok (.enter fn args) W)
    (h : ∀ r W, r ∈ rs → Inv W → Calls Try.prog fn (#[.slice r.A r.n r.c] ++ cap) W fun x w' => x = .returned (.bool (f r)) ∧ Inv w') :
    Calls Try.prog 17 #[.slice A n c, .func (.func fn) #[] cap] w fun e w' => e = .returned (.bool (rs.any f)) ∧ Inv w' := by
  have H := hide (rowIndex_any fn cap f A n c rs B Inv w hm hr hI hrun h)
  have HF := hide (idxR_any f rs 0)
  obtain ⟨x, hx⟩ : ∃ x, idxR f rs 0 = x := ⟨_, rfl⟩
  rw [hx] at H HF
  clear hr hI hrun h hm hx
  go_enter Try.func17, Try.ntmps17
  go_wp2_with fail
  refine (unhide H).mono ?_
  rintro _ w2 ⟨rfl, hb2⟩
  have HB2 := hide hb2
  clear hb2
  go_wp2_with fail
  go_ret
  exact ⟨ret_bool (by rw [← unhide HF]), unhide HB2⟩
end Go.Proofs.Ytjhgnblakmhncaa
