/- Contracts of slices.IndexFunc and ContainsFunc over numbers, for a function value that keeps whatever is asked of the world ('Inv'). Conditions: none beyond what each theorem states. -/
import Derived.Test.YtbkciniikahjhaaProg
import Derived.Test.YtbkciniikahjhaaKit
import Derived.Test.YtbkciniikahjhaaMem
namespace Go.Proofs.Ytbkciniikahjhaa
open Go.RowKit
set_option linter.unusedVariables false

def idxZ (f : Int → Bool) : List Int → Nat → Int
  | [], _ => -1
  | z :: l, k => if f z then k else idxZ f l (k + 1)
theorem idxZ_any (f : Int → Bool) : ∀ (l : List Int) (k : Nat), decide (0 ≤ idxZ f l k) = l.any f
  | [], k => by simp [idxZ]
  | z :: l, k => by
    cases hf : f z with
    | true => simp [idxZ, hf]
    | false => simp only [idxZ, hf, List.any_cons, Bool.false_or]; exact idxZ_any f l (k + 1)

theorem intIndex_any (fn : FuncId) (cap : Array Value) (f : Int → Bool) (A : Option Addr) (n c : Nat) (zs : List Int) (B : Nat) (Inv : World → Prop) (w : World) (hl : zs.length = n) (hm : n ≤ maxLen)
    (hr : ∀ W, Inv W → Reads W B 1 A n (zs.map (.int .i64))) (hI : Inv w)
    (hrun : ∀ args W, (callFunc fn args).run Try.prog W = .ok (.enter fn args) W)
    (h : ∀ z W, z ∈ zs → Inv W → Calls Try.prog fn (#[.int .i64 z] ++ cap) W fun x w' => x = .returned (.bool (f z)) ∧ Inv w') :
    Calls Try.prog 54 #[.slice A n c, .func (.func fn) #[] cap] w fun e w' => e = .returned (.int .i64 (idxZ f zs 0)) ∧ Inv w' := by
  have HR := hide hr
  have HL := hide hl
  have H := hide h
  have HI := hide hI
  unfold maxLen at hm
  clear hr hl h hI
  go_enter Try.func54, Try.ntmps54
  go_wp2_with fail
  go_loopw [8] (fun i wr => ∃ (k : Nat), k ≤ n ∧ i = .int .i64 k ∧ Hid (Inv wr) ∧ Hid (idxZ f (zs.drop k) k = idxZ f zs 0)) (fun i _ => n - (intOf i).toNat)
  case atStart => exact ⟨0, Nat.zero_le _, rfl, HI, rfl⟩
  case round =>
    obtain ⟨k, hk, rfl, HW, HX⟩ := hrel
    by_cases hlt : k < n
    · obtain ⟨b, o, z, rfl, hbl, hz, hc⟩ := at_num (unhide HR _ (unhide HW)) hlt
      have HX2 := hide (by have h := unhide HX; rw [drop_cons zs k z hz, idxZ] at h; exact h)
      have H2 := hide (unhide H z wr (List.mem_of_getElem? hz) (unhide HW))
      clear HX hz
      cases hf : f z with
      | true =>
        have HX3 := hide (by have h := unhide HX2; rw [if_pos hf] at h; exact h)
        rw [hf] at H2
        clear HX2
        go_wp2_with fail
        refine (unhide H2).mono ?_
        rintro _ w2 ⟨rfl, hb2⟩
        have HB2 := hide hb2
        clear hb2
        go_wp2_with fail
        go_ret
        exact ⟨ret_int (unhide HX3), unhide HB2⟩
      | false =>
        have HX3 := hide (by have h := unhide HX2; rw [if_neg (by rw [hf]; simp)] at h; exact h)
        rw [hf] at H2
        clear HX2
        go_wp2_with fail
        refine (unhide H2).mono ?_
        rintro _ w2 ⟨rfl, hb2⟩
        have HB2 := hide hb2
        clear hb2
        go_wp2_with fail
        go_roundw
        case rel => exact ⟨k + 1, by omega, by go_num, HB2, unhide HX3⟩
        case measure => simp [intOf]; omega
    · obtain rfl : k = n := by omega
      have HF := hide (show idxZ f zs 0 = -1 by
        have h := unhide HX
        rw [List.drop_of_length_le (by rw [unhide HL]; exact Nat.le_refl _)] at h
        exact h.symm)
      clear HX
      go_wp2_with fail
      go_ret
      exact ⟨ret_int (unhide HF).symm, unhide HW⟩

theorem intContains_any (fn : FuncId) (cap : Array Value) (f : Int → Bool) (A : Option Addr) (n c : Nat) (zs : List Int) (B : Nat) (Inv : World → Prop) (w : World) (hl : zs.length = n) (hm : n ≤ maxLen)
    (hr : ∀ W, Inv W → Reads W B 1 A n (zs.map (.int .i64))) (hI : Inv w)
    (hrun : ∀ args W, (callFunc fn args).run Try.prog W = .ok (.enter fn args) W)
    (h : ∀ z W, z ∈ zs → Inv W → Calls Try.prog fn (#[.int .i64 z] ++ cap) W fun x w' => x = .returned (.bool (f z)) ∧ Inv w') :
    Calls Try.prog 26 #[.slice A n c, .func (.func fn) #[] cap] w fun e w' => e = .returned (.bool (zs.any f)) ∧ Inv w' := by
  have H := hide (intIndex_any fn cap f A n c zs B Inv w hl hm hr hI hrun h)
  have HF := hide (idxZ_any f zs 0)
  obtain ⟨x, hx⟩ : ∃ x, idxZ f zs 0 = x := ⟨_, rfl⟩
  rw [hx] at H HF
  clear hl hr hI hrun h hm hx
  go_enter Try.func26, Try.ntmps26
  go_wp2_with fail
  refine (unhide H).mono ?_
  rintro _ w2 ⟨rfl, hb2⟩
  have HB2 := hide hb2
  clear hb2
  go_wp2_with fail
  go_ret
  exact ⟨ret_bool (by rw [← unhide HF]), unhide HB2⟩
end Go.Proofs.Ytbkciniikahjhaa
