/- Contracts of clock.fault, clock.Order and of the reference's ClockOrder; the walk of the law on them. Conditions: none beyond what each theorem states. -/
import Derived.Test.YtickpflebmecpaaClockA
namespace Go.Proofs.Ytickpflebmecpaa
open Go.RowKit
set_option linter.unusedVariables false

def faultP (a b : List Int) : Int := if clockP a = false ∨ clockP b = false then 4 else if a.length = b.length then 0 else 1
def anyLt (a b : List Int) : Bool := (a.zip b).any fun p => decide (p.1 < p.2)
def orderOf (p q : Bool) : Int := if p && q then 2 else if p then -1 else if q then 1 else 0
def orderP (a b : List Int) : Int × Int := if faultP a b = 0 then (orderOf (anyLt a b) (anyLt b a), 0) else (0, faultP a b)
theorem anyLt_take (a b : List Int) (k : Nat) (x y : Int) (hx : a[k]? = some x) (hy : b[k]? = some y) : anyLt (a.take (k + 1)) (b.take (k + 1)) = (anyLt (a.take k) (b.take k) || decide (x < y)) := by
  rw [take_snoc a k x hx, take_snoc b k y hy]
  have h1 : k < a.length := (List.getElem?_eq_some_iff.1 hx).1
  have h2 : k < b.length := (List.getElem?_eq_some_iff.1 hy).1
  unfold anyLt
  rw [List.zip_append (by rw [List.length_take, List.length_take]; omega)]
  simp

theorem clockFault_any (A : Option Addr) (n c : Nat) (a : List Int) (A' : Option Addr) (n' c' : Nat) (b : List Int) (B : Nat) (w : World) (hl : a.length = n) (hm : n ≤ maxLen) (hr : Reads w B 1 A n (a.map (.int .i64)))
    (hl' : b.length = n') (hm' : n' ≤ maxLen) (hr' : Reads w B 1 A' n' (b.map (.int .i64))) :
    Calls Try.prog 19 #[.slice A n c, .slice A' n' c'] w fun e w' => e = .returned (.int .i64 (faultP a b)) ∧ w = w' := by
  have H1 := hide (clockMay_any A n c a B w hl hm hr)
  have H2 := hide (clockMay_any A' n' c' b B w hl' hm' hr')
  clear hr hr'
  unfold maxLen at hm hm'
  cases ha : clockP a with
  | false =>
    rw [ha] at H1
    have HF := hide (show faultP a b = 4 by simp [faultP, ha])
    clear ha hl hl'
    go_enter Try.func19, Try.ntmps19
    go_wp2_with fail
    refine (unhide H1).mono ?_
    rintro _ _ ⟨rfl, rfl⟩
    go_wp2_with fail
    go_ret
    exact ⟨ret_int (unhide HF).symm, rfl⟩
  | true =>
    rw [ha] at H1
    cases hb : clockP b with
    | false =>
      rw [hb] at H2
      have HF := hide (show faultP a b = 4 by simp [faultP, hb])
      clear ha hl hl' hb
      go_enter Try.func19, Try.ntmps19
      go_wp2_with fail
      refine (unhide H1).mono ?_
      rintro _ _ ⟨rfl, rfl⟩
      go_wp2_with fail
      refine (unhide H2).mono ?_
      rintro _ _ ⟨rfl, rfl⟩
      go_wp2_with fail
      go_ret
      exact ⟨ret_int (unhide HF).symm, rfl⟩
    | true =>
      rw [hb] at H2
      by_cases he : n = n'
      · subst he
        have HF := hide (show faultP a b = 0 by simp [faultP, ha, hb, hl, hl'])
        clear ha hl hl' hb
        go_enter Try.func19, Try.ntmps19
        go_wp2_with fail
        refine (unhide H1).mono ?_
        rintro _ _ ⟨rfl, rfl⟩
        go_wp2_with fail
        refine (unhide H2).mono ?_
        rintro _ _ ⟨rfl, rfl⟩
        go_wp2_with fail
        go_ret
        exact ⟨ret_int (unhide HF).symm, rfl⟩
      · have HF := hide (show faultP a b = 1 by simp [faultP, ha, hb, hl, hl', he])
        have h1 : (((n : Nat) : Int) != (n' : Nat)) = true := by simp; omega
        have h2 : (n != n') = true := by simp; omega
        clear ha hl hl' hb he
        go_enter Try.func19, Try.ntmps19
        go_wp2_with fail
        refine (unhide H1).mono ?_
        rintro _ _ ⟨rfl, rfl⟩
        go_wp2_with fail
        refine (unhide H2).mono ?_
        rintro _ _ ⟨rfl, rfl⟩
        go_wp2_with fail
        go_ret
        exact ⟨ret_int (unhide HF).symm, rfl⟩

theorem faultP_zero {a b : List Int} (h : faultP a b = 0) : clockP a = true ∧ clockP b = true ∧ a.length = b.length := by
  unfold faultP at h
  split at h
  · cases h
  · split at h
    · rename_i h1 h2
      simp only [not_or, Bool.not_eq_false] at h1
      exact ⟨h1.1, h1.2, h2⟩
    · cases h
theorem faultP_cases (a b : List Int) : faultP a b = 0 ∨ faultP a b = 1 ∨ faultP a b = 4 := by
  unfold faultP; split
  · exact .inr (.inr rfl)
  · split
    · exact .inl rfl
    · exact .inr (.inl rfl)

set_option maxHeartbeats 800000 in
theorem clockOrder_any (A : Option Addr) (n c : Nat) (a : List Int) (A' : Option Addr) (n' c' : Nat) (b : List Int) (B : Nat) (w : World) (hl : a.length = n) (hm : n ≤ maxLen) (hr : Reads w B 1 A n (a.map (.int .i64)))
    (hl' : b.length = n') (hm' : n' ≤ maxLen) (hr' : Reads w B 1 A' n' (b.map (.int .i64))) :
    Calls Try.prog 9 #[.slice A n c, .slice A' n' c'] w fun e w' => e = .returned (.tuple #[.int .i64 (orderP a b).1, .int .i64 (orderP a b).2]) ∧ ∃ m, w.drewN m = w' := by
  have H1 := hide (clockFault_any A n c a A' n' c' b B w hl hm hr hl' hm' hr')
  have HR := hide hr
  have HR' := hide hr'
  have HLA := hide hl
  have HLB := hide hl'
  clear hr hr'
  unfold maxLen at hm hm'
  rcases faultP_cases a b with hf | hf | hf
  · obtain ⟨ha, hb, he⟩ := faultP_zero hf
    obtain rfl : n = n' := by omega
    have hle : n ≤ 8 := by have := (clockP_good ha).2.1; omega
    have HF := hide (show orderP a b = (orderOf (anyLt a b) (anyLt b a), 0) by simp [orderP, hf])
    rw [hf] at H1
    clear ha hb he hf hl hl'
    go_enter Try.func9, Try.ntmps9
    go_wp2_with fail
    refine (unhide H1).mono ?_
    rintro _ _ ⟨rfl, rfl⟩
    go_wp2_with fail
    go_loopw [7, 8, 18] (fun x y i wr => ∃ (k m : Nat) (p q : Bool), k ≤ n ∧ x = .bool p ∧ y = .bool q ∧ i = .int .i64 k ∧ wr = w.drewN m ∧ Hid (anyLt (a.take k) (b.take k) = p ∧ anyLt (b.take k) (a.take k) = q)) (fun _ _ i _ => n - (intOf i).toNat)
    case atStart => exact ⟨0, 0, false, false, Nat.zero_le _, rfl, rfl, rfl, rfl, rfl, rfl⟩
    case round =>
      obtain ⟨k, m, p, q, hk, rfl, rfl, rfl, rfl, HX⟩ := hrel
      by_cases hlt : k < n
      · obtain ⟨b1, o1, x, rfl, hbl, hx, hc⟩ := at_num (unhide HR) hlt
        obtain ⟨b2, o2, y, rfl, hbl', hy, hc'⟩ := at_num (unhide HR') hlt
        have hkn : (k : Int) < (n : Int) := by omega
        have HX2 := hide (show anyLt (a.take (k + 1)) (b.take (k + 1)) = (p || decide (x < y)) ∧ anyLt (b.take (k + 1)) (a.take (k + 1)) = (q || decide (y < x)) by
          rw [anyLt_take a b k x y hx hy, anyLt_take b a k y x hy hx, (unhide HX).1, (unhide HX).2]; exact ⟨rfl, rfl⟩)
        clear HX hx hy
        cases p <;> cases q
        all_goals
          go_wp2_with fail
          go_quiet (fail)
          go_wp2_with fail
          go_quiet (fail)
          go_wp2_with fail
          go_roundw
          case rel => exact ⟨k + 1, _, _, _, by omega, rfl, rfl, by go_num, rfl, (unhide HX2).1, (unhide HX2).2⟩
          case measure => simp [intOf]; omega
      · obtain rfl : k = n := by omega
        have HG := hide (show orderP a b = (orderOf p q, 0) by
          have h := unhide HX
          rw [List.take_of_length_le (by rw [unhide HLA]; exact Nat.le_refl _), List.take_of_length_le (by rw [unhide HLB]; exact Nat.le_refl _)] at h
          rw [unhide HF, h.1, h.2])
        clear HX
        cases p <;> cases q
        all_goals
          go_wp2_with fail
          go_ret2
          exact ⟨by rw [unhide HG]; rfl, m, rfl⟩
  all_goals
    have HF := hide (show orderP a b = (0, faultP a b) by simp [orderP, hf])
    rw [hf] at H1 HF
    clear hl hl' hf
    go_enter Try.func9, Try.ntmps9
    go_wp2_with fail
    refine (unhide H1).mono ?_
    rintro _ _ ⟨rfl, rfl⟩
    go_wp2_with fail
    go_ret2
    exact ⟨by rw [unhide HF]; rfl, 0, rfl⟩

theorem notAbove_any (A : Option Addr) (n c : Nat) (a : List Int) (A' : Option Addr) (c' : Nat) (b : List Int) (B : Nat) (w : World) (hl : a.length = n) (hm : n ≤ 8) (hr : Reads w B 1 A n (a.map (.int .i64)))
    (hl' : b.length = n) (hr' : Reads w B 1 A' n (b.map (.int .i64))) :
    Calls Try.prog 20 #[.slice A n c, .slice A' n c'] w fun e w' => e = .returned (.bool (!anyLt b a)) ∧ ∃ m, w.drewN m = w' := by
  have HR := hide hr
  have HR' := hide hr'
  have HLA := hide hl
  have HLB := hide hl'
  clear hr hr' hl hl'
  go_enter Try.func20, Try.ntmps20
  go_wp2_with fail
  go_loopw [8] (fun i wr => ∃ (k m : Nat), k ≤ n ∧ i = .int .i64 k ∧ wr = w.drewN m ∧ Hid (anyLt (b.take k) (a.take k) = false)) (fun i _ => n - (intOf i).toNat)
  case atStart => exact ⟨0, 0, Nat.zero_le _, rfl, rfl, rfl⟩
  case round =>
    obtain ⟨k, m, hk, rfl, rfl, HX⟩ := hrel
    by_cases hlt : k < n
    · obtain ⟨b1, o1, x, rfl, hbl, hx, hc⟩ := at_num (unhide HR) hlt
      obtain ⟨b2, o2, y, rfl, hbl', hy, hc'⟩ := at_num (unhide HR') hlt
      have hkn : (k : Int) < (n : Int) := by omega
      have HX2 := hide (show anyLt (b.take (k + 1)) (a.take (k + 1)) = decide (y < x) by
        rw [anyLt_take b a k y x hy hx, unhide HX]; rfl)
      by_cases hyx : y < x
      · have HG := hide (show anyLt b a = true by
          have e1 : a = a.take (k + 1) ++ a.drop (k + 1) := (List.take_append_drop _ _).symm
          have e2 : b = b.take (k + 1) ++ b.drop (k + 1) := (List.take_append_drop _ _).symm
          have h := unhide HX2
          rw [decide_eq_true hyx] at h
          rw [e1, e2]
          unfold anyLt at h ⊢
          rw [List.zip_append (by rw [List.length_take, List.length_take, unhide HLA, unhide HLB]), List.any_append, h]
          rfl)
        clear HX HX2 hx hy
        go_wp2_with fail
        go_quiet (fail)
        go_wp2_with fail
        go_ret
        exact ⟨by rw [unhide HG]; rfl, _, (World.drewN_drewN _ _ _).symm⟩
      · have HX3 := hide (show anyLt (b.take (k + 1)) (a.take (k + 1)) = false by rw [unhide HX2, decide_eq_false hyx])
        have hxy : x ≤ y := by omega
        clear HX HX2 hx hy hyx
        go_wp2_with fail
        go_quiet (fail)
        go_wp2_with fail
        go_roundw
        case rel => exact ⟨k + 1, _, by omega, by go_num, rfl, unhide HX3⟩
        case measure => simp [intOf]; omega
    · obtain rfl : k = n := by omega
      have HG := hide (show anyLt b a = false by
        have h := unhide HX
        rw [List.take_of_length_le (by rw [unhide HLB]; exact Nat.le_refl _), List.take_of_length_le (by rw [unhide HLA]; exact Nat.le_refl _)] at h
        exact h)
      clear HX
      go_wp2_with fail
      go_ret
      exact ⟨by rw [unhide HG]; rfl, _, rfl⟩

theorem clockOrder_ref (A : Option Addr) (n c : Nat) (a : List Int) (A' : Option Addr) (n' c' : Nat) (b : List Int) (B : Nat) (w : World) (hl : a.length = n) (hm : n ≤ maxLen) (hr : Reads w B 1 A n (a.map (.int .i64)))
    (hl' : b.length = n') (hm' : n' ≤ maxLen) (hr' : Reads w B 1 A' n' (b.map (.int .i64))) :
    Calls Try.prog 10 #[.slice A n c, .slice A' n' c'] w fun e w' => e = .returned (.tuple #[.int .i64 (orderP a b).1, .int .i64 (orderP a b).2]) ∧ ∃ m, w.drewN m = w' := by
  have H1 := hide (clockMay_ref A n c a B w hl hm hr)
  have H2 := hide (clockMay_ref A' n' c' b B w hl' hm' hr')
  unfold maxLen at hm hm'
  cases ha : clockP a with
  | false =>
    rw [ha] at H1
    have HF := hide (show orderP a b = (0, 4) by simp [orderP, faultP, ha])
    clear ha hl hl' hr hr'
    go_enter Try.func10, Try.ntmps10
    go_wp2_with fail
    refine (unhide H1).mono ?_
    rintro _ _ ⟨rfl, rfl⟩
    go_wp2_with fail
    go_ret2
    exact ⟨by rw [unhide HF]; rfl, 0, rfl⟩
  | true =>
    rw [ha] at H1
    cases hb : clockP b with
    | false =>
      rw [hb] at H2
      have HF := hide (show orderP a b = (0, 4) by simp [orderP, faultP, hb])
      clear ha hl hl' hb hr hr'
      go_enter Try.func10, Try.ntmps10
      go_wp2_with fail
      refine (unhide H1).mono ?_
      rintro _ _ ⟨rfl, rfl⟩
      go_wp2_with fail
      refine (unhide H2).mono ?_
      rintro _ _ ⟨rfl, rfl⟩
      go_wp2_with fail
      go_ret2
      exact ⟨by rw [unhide HF]; rfl, 0, rfl⟩
    | true =>
      rw [hb] at H2
      by_cases he : n = n'
      · subst he
        have hle : n ≤ 8 := by have := (clockP_good ha).2.1; omega
        have H3 := hide (notAbove_any A n c a A' c' b B w hl hle hr hl' hr')
        have H4 := hide (fun m => notAbove_any A' n c' b A c a B (w.drewN m) hl' hle (hr'.drewN m) hl (hr.drewN m))
        have HF := hide (show orderP a b = (orderOf (anyLt a b) (anyLt b a), 0) by simp [orderP, faultP, ha, hb, hl, hl'])
        clear ha hl hl' hb hr hr'
        generalize anyLt a b = p at H3 H4 HF
        generalize anyLt b a = q at H3 H4 HF
        cases p <;> cases q
        all_goals
          go_enter Try.func10, Try.ntmps10
          go_wp2_with fail
          refine (unhide H1).mono ?_
          rintro _ _ ⟨rfl, rfl⟩
          go_wp2_with fail
          refine (unhide H2).mono ?_
          rintro _ _ ⟨rfl, rfl⟩
          go_wp2_with fail
          refine (unhide H3).mono ?_
          rintro _ _ ⟨rfl, m1, rfl⟩
          go_wp2_with fail
          refine (unhide H4 m1).mono ?_
          rintro _ _ ⟨rfl, m2, rfl⟩
          go_wp2_with fail
          go_ret2
          exact ⟨by rw [unhide HF]; rfl, _, rfl⟩
      · have HF := hide (show orderP a b = (0, 1) by simp [orderP, faultP, ha, hb, hl, hl', he])
        have h1 : (((n : Nat) : Int) != (n' : Nat)) = true := by simp; omega
        have h2 : (n != n') = true := by simp; omega
        clear ha hl hl' hb he hr hr'
        go_enter Try.func10, Try.ntmps10
        go_wp2_with fail
        refine (unhide H1).mono ?_
        rintro _ _ ⟨rfl, rfl⟩
        go_wp2_with fail
        refine (unhide H2).mono ?_
        rintro _ _ ⟨rfl, rfl⟩
        go_wp2_with fail
        go_ret2
        exact ⟨by rw [unhide HF]; rfl, 0, rfl⟩

theorem walk_ClockOrders (A : Option Addr) (n c : Nat) (zs : List Int) (A' : Option Addr) (n' c' : Nat) (ys : List Int) (w : World)
    (l : n ≤ c) (m : c ≤ maxLen) (e : zs.length = n) (hr : Reads w w.heap.size 1 A n (zs.map (.int .i64))) (_hw : ∀ z ∈ zs, (Lit.int .i64 z).wf = true)
    (l' : n' ≤ c') (m' : c' ≤ maxLen) (e' : ys.length = n') (hr' : Reads w w.heap.size 1 A' n' (ys.map (.int .i64))) (_hw' : ∀ z ∈ ys, (Lit.int .i64 z).wf = true) :
    Calls Try.prog 4 #[.slice A n c, .slice A' n' c'] w fun e w' => e = .returned (.bool true) ∧ Below w.heap.size w w' := by
  have H1 := hide (clockOrder_any A n c zs A' n' c' ys _ w e (by omega) hr e' (by omega) hr')
  have H2 := hide (fun m => clockOrder_ref A n c zs A' n' c' ys _ (w.drewN m) e (by omega) (hr.drewN m) e' (by omega) (hr'.drewN m))
  clear e hr l m e' hr' l' m'
  obtain ⟨r, hrr⟩ : ∃ r, orderP zs ys = r := ⟨_, rfl⟩
  rw [hrr] at H1 H2
  clear hrr
  go_enter Try.func4, Try.ntmps4
  go_wp2_with fail
  refine (unhide H1).mono ?_
  rintro e w' ⟨rfl, m1, rfl⟩
  go_wp2_with fail
  refine (unhide H2 m1).mono ?_
  rintro e w' ⟨rfl, m2, rfl⟩
  go_wp2_with fail
  go_ret
  exact ⟨by simp, below_drewN (Below.refl _ _) _⟩
end Go.Proofs.Ytickpflebmecpaa
