/- Contracts of clock.May and of the reference's ClockMay; the walk of the law on them. Conditions: none beyond what each theorem states. -/
import Derived.Test.YtickpflebmecpaaIntIdx
namespace Go.Proofs.Ytickpflebmecpaa
open Go.RowKit
set_option linter.unusedVariables false

def badN (z : Int) : Bool := decide (z < 0) || decide (1048576 < z)
def clockP (zs : List Int) : Bool := decide (1 ≤ zs.length) && decide (zs.length ≤ 8) && !(zs.any badN)
theorem clockP_good {zs : List Int} (h : clockP zs = true) : 1 ≤ zs.length ∧ zs.length ≤ 8 ∧ ∀ z ∈ zs, 0 ≤ z ∧ z ≤ 1048576 := by
  simp only [clockP, Bool.and_eq_true, decide_eq_true_eq, Bool.not_eq_true', List.any_eq_false] at h
  refine ⟨h.1.1, h.1.2, fun z hz => ?_⟩
  have := h.2 z hz
  simp [badN] at this
  omega

theorem clockClo_any (z : Int) (w : World) : Calls Try.prog 18 #[.int .i64 z] w fun x w' => x = .returned (.bool (badN z)) ∧ w = w' := by
  by_cases h0 : z < 0
  · have HF := hide (show badN z = true by simp [badN, h0])
    go_enter Try.func18, Try.ntmps18
    go_wp2_with fail
    go_ret
    exact ⟨ret_bool (unhide HF).symm, rfl⟩
  · have h1 : 0 ≤ z := by omega
    clear h0
    go_enter Try.func18, Try.ntmps18
    go_wp2_with fail
    go_ret
    exact ⟨rfl, rfl⟩

theorem clockMay_any (A : Option Addr) (n c : Nat) (zs : List Int) (B : Nat) (w : World) (hl : zs.length = n) (hm : n ≤ maxLen) (hr : Reads w B 1 A n (zs.map (.int .i64))) :
    Calls Try.prog 7 #[.slice A n c] w fun e w' => e = .returned (.bool (clockP zs)) ∧ w = w' := by
  have H := hide (intContains_any 18 #[] badN A n c zs B (fun W => w = W) w hl hm (fun W hW => hW ▸ hr) rfl
    (callFunc_enters Try.func18 (by kernel_rfl) rfl) (fun z W _ hW => (clockClo_any z W).mono fun x w' ⟨hx, hw'⟩ => ⟨hx, hW.trans hw'⟩))
  clear hr
  unfold maxLen at hm
  by_cases h1 : 1 ≤ n
  · by_cases h8 : n ≤ 8
    · have HF := hide (show clockP zs = !(zs.any badN) by simp [clockP, hl, h1, h8])
      obtain ⟨x, hx⟩ : ∃ x, zs.any badN = x := ⟨_, rfl⟩
      rw [hx] at H HF
      clear hl hx hm
      go_enter Try.func7, Try.ntmps7
      go_wp2_with fail
      refine (unhide H).mono ?_
      rintro _ _ ⟨rfl, rfl⟩
      go_wp2_with fail
      go_ret
      exact ⟨ret_bool (by rw [unhide HF]), rfl⟩
    · have HF := hide (show clockP zs = false by simp [clockP, hl, h8])
      have h8' : 8 < n := by omega
      clear hl h8
      go_enter Try.func7, Try.ntmps7
      go_wp2_with fail
      go_ret
      exact ⟨ret_bool (unhide HF).symm, rfl⟩
  · obtain rfl : n = 0 := by omega
    have HF := hide (show clockP zs = false by simp [clockP, hl])
    clear hl h1
    go_enter Try.func7, Try.ntmps7
    go_wp2_with fail
    go_ret
    exact ⟨ret_bool (unhide HF).symm, rfl⟩

theorem clockMay_ref (A : Option Addr) (n c : Nat) (zs : List Int) (B : Nat) (w : World) (hl : zs.length = n) (hm : n ≤ maxLen) (hr : Reads w B 1 A n (zs.map (.int .i64))) :
    Calls Try.prog 8 #[.slice A n c] w fun e w' => e = .returned (.bool (clockP zs)) ∧ w = w' := by
  have HR := hide hr
  have HL := hide hl
  clear hr hl
  unfold maxLen at hm
  by_cases h1 : n = 0
  · subst h1
    have HF := hide (show clockP zs = false by simp [clockP, unhide HL])
    go_enter Try.func8, Try.ntmps8
    go_wp2_with fail
    go_ret
    exact ⟨ret_bool (unhide HF).symm, rfl⟩
  have hn0 : (((n : Nat) : Int) == 0) = false := by simp; omega
  have hn1 : (n == 0) = false := by simp; omega
  by_cases h8 : 8 < n
  · have HF := hide (show clockP zs = false by simp [clockP, unhide HL]; omega)
    go_enter Try.func8, Try.ntmps8
    go_wp2_with fail
    go_ret
    exact ⟨ret_bool (unhide HF).symm, rfl⟩
  have h8' : n ≤ 8 := by omega
  have h1' : 1 ≤ n := by omega
  have HF := hide (show clockP zs = !(zs.any badN) by simp [clockP, unhide HL, h1', h8'])
  clear h8 h1
  go_enter Try.func8, Try.ntmps8
  go_wp2_with fail
  go_loop [15] (fun i => ∃ (k : Nat), k ≤ n ∧ i = .int .i64 k ∧ Hid ((zs.drop k).any badN = zs.any badN)) (fun i => n - (intOf i).toNat)
  case atStart => exact ⟨0, Nat.zero_le _, rfl, rfl⟩
  case round =>
    obtain ⟨k, hk, rfl, HX⟩ := hrel
    by_cases hlt : k < n
    · obtain ⟨b, o, z, rfl, hbl, hz, hc⟩ := at_num (unhide HR) hlt
      have HX2 := hide (by have h := unhide HX; rw [drop_cons zs k z hz, List.any_cons] at h; exact h)
      clear HX hz
      by_cases h0 : z < 0
      · have HG := hide (show clockP zs = false by rw [unhide HF, ← unhide HX2]; simp [badN, h0])
        go_wp2_with fail
        go_ret
        exact ⟨ret_bool (unhide HG).symm, rfl⟩
      by_cases h2 : 1048576 < z
      · have HG := hide (show clockP zs = false by rw [unhide HF, ← unhide HX2]; simp [badN, h2])
        have h0' : 0 ≤ z := by omega
        go_wp2_with fail
        go_ret
        exact ⟨ret_bool (unhide HG).symm, rfl⟩
      have h0' : 0 ≤ z := by omega
      have h2' : z ≤ 1048576 := by omega
      have HX3 := hide (show (zs.drop (k + 1)).any badN = zs.any badN by rw [← unhide HX2]; simp [badN, h0, h2])
      clear HX2 h0 h2
      go_wp2_with fail
      go_round
      case rel => exact ⟨k + 1, by omega, by go_num, unhide HX3⟩
      case measure => simp [intOf]; omega
    · obtain rfl : k = n := by omega
      have HG := hide (show clockP zs = true by
        have h := unhide HX
        rw [List.drop_of_length_le (by rw [unhide HL]; exact Nat.le_refl _)] at h
        rw [unhide HF, ← h]; rfl)
      clear HX
      go_wp2_with fail
      go_ret
      exact ⟨ret_bool (unhide HG).symm, rfl⟩

theorem walk_ClockMays (A : Option Addr) (n c : Nat) (zs : List Int) (w : World) (l : n ≤ c) (m : c ≤ maxLen) (e : zs.length = n) (hr : Reads w w.heap.size 1 A n (zs.map (.int .i64))) (_hw : ∀ z ∈ zs, (Lit.int .i64 z).wf = true) :
    Calls Try.prog 3 #[.slice A n c] w fun e w' => e = .returned (.bool true) ∧ Below w.heap.size w w' := by
  have H1 := hide (clockMay_any A n c zs _ w e (by omega) hr)
  have H2 := hide (clockMay_ref A n c zs _ w e (by omega) hr)
  clear e hr l m
  go_enter Try.func3, Try.ntmps3
  go_wp2_with fail
  refine (unhide H1).mono ?_
  rintro e w' ⟨rfl, rfl⟩
  go_wp2_with fail
  refine (unhide H2).mono ?_
  rintro e w' ⟨rfl, rfl⟩
  go_wp2_with fail
  go_ret
  exact ⟨by simp, Below.refl _ _⟩
end Go.Proofs.Ytickpflebmecpaa
