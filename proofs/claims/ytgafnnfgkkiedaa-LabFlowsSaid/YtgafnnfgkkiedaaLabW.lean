/- The walks of the laws on labels: each law returns true, and writes nothing that was there. Conditions: none beyond what each theorem states. -/
import Derived.Test.YtgafnnfgkkiedaaLabB
namespace Go.Proofs.Ytgafnnfgkkiedaa
open Go.RowKit

theorem walk_LabMays (a0 : Int) (w0 : (Lit.int .i64 a0).wf = true) (w : World) :
    Calls Try.prog 4 #[.int .i64 a0] w fun e w' => e = .returned (.bool true) ∧ Below w.heap.size w w' := by
  obtain ⟨h1, h2⟩ := wf_i64_bounds w0
  go_enter Try.func4, Try.ntmps4
  go_wp2_with (first
    | (go_at_call 9; refine (labMay_any _ (by omega) _).mono ?_; rintro e w' ⟨rfl, rfl⟩)
    | (go_at_call 10; refine (labMay_ref _ _).mono ?_; rintro e w' ⟨rfl, rfl⟩))
  go_ret
  exact ⟨by simp, Below.refl _ _⟩

theorem walk_LabJoins (a0 : Int) (w0 : (Lit.int .i64 a0).wf = true) (a1 : Int) (w1 : (Lit.int .i64 a1).wf = true) (w : World) :
    Calls Try.prog 5 #[.int .i64 a0, .int .i64 a1] w fun e w' => e = .returned (.bool true) ∧ Below w.heap.size w w' := by
  obtain ⟨h1, h2⟩ := wf_i64_bounds w0
  obtain ⟨h3, h4⟩ := wf_i64_bounds w1
  by_cases hok : (0 ≤ a0 ∧ a0 ≤ 255) ∧ (0 ≤ a1 ∧ a1 ≤ 255)
  · obtain ⟨⟨g1, g2⟩, g3, g4⟩ := hok
    obtain ⟨a, rfl⟩ := Int.eq_ofNat_of_zero_le g1
    obtain ⟨b, rfl⟩ := Int.eq_ofNat_of_zero_le g3
    have e := labJoin_eq a b (by omega)
    have hr := labRefJoin_ok a b (by omega) (by omega)
    rw [e] at hr
    go_enter Try.func5, Try.ntmps5
    go_wp2_with fail
    refine (labJoin_ok a b (by omega) (by omega) _).mono ?_
    rintro e w' ⟨rfl, rfl⟩
    go_wp2_with fail
    refine (hr _).mono ?_
    rintro e w' ⟨rfl, hb⟩
    go_wp2_with fail
    go_ret
    exact ⟨by simp, hb⟩
  · have hbad : (mayB a0 && mayB a1) = false := by simp only [mayB, Bool.and_eq_false_iff, decide_eq_false_iff_not]; omega
    go_enter Try.func5, Try.ntmps5
    go_wp2_with fail
    refine (labJoin_bad a0 a1 (by omega) (by omega) hbad _).mono ?_
    rintro e w' ⟨rfl, rfl⟩
    go_wp2_with fail
    refine (labRefJoin_bad a0 a1 hbad _).mono ?_
    rintro e w' ⟨rfl, hb⟩
    go_wp2_with fail
    go_ret
    exact ⟨by simp, hb⟩

theorem walk_LabMeets (a0 : Int) (w0 : (Lit.int .i64 a0).wf = true) (a1 : Int) (w1 : (Lit.int .i64 a1).wf = true) (w : World) :
    Calls Try.prog 6 #[.int .i64 a0, .int .i64 a1] w fun e w' => e = .returned (.bool true) ∧ Below w.heap.size w w' := by
  obtain ⟨h1, h2⟩ := wf_i64_bounds w0
  obtain ⟨h3, h4⟩ := wf_i64_bounds w1
  by_cases hok : (0 ≤ a0 ∧ a0 ≤ 255) ∧ (0 ≤ a1 ∧ a1 ≤ 255)
  · obtain ⟨⟨g1, g2⟩, g3, g4⟩ := hok
    obtain ⟨a, rfl⟩ := Int.eq_ofNat_of_zero_le g1
    obtain ⟨b, rfl⟩ := Int.eq_ofNat_of_zero_le g3
    have e := labMeet_eq a b (by omega) (by omega)
    have hr := labRefMeet_ok a b (by omega) (by omega)
    rw [e] at hr
    go_enter Try.func6, Try.ntmps6
    go_wp2_with fail
    refine (labMeet_ok a b (by omega) (by omega) _).mono ?_
    rintro e w' ⟨rfl, rfl⟩
    go_wp2_with fail
    refine (hr _).mono ?_
    rintro e w' ⟨rfl, hb⟩
    go_wp2_with fail
    go_ret
    exact ⟨by simp, hb⟩
  · have hbad : (mayB a0 && mayB a1) = false := by simp only [mayB, Bool.and_eq_false_iff, decide_eq_false_iff_not]; omega
    go_enter Try.func6, Try.ntmps6
    go_wp2_with fail
    refine (labMeet_bad a0 a1 (by omega) (by omega) hbad _).mono ?_
    rintro e w' ⟨rfl, rfl⟩
    go_wp2_with fail
    refine (labRefMeet_bad a0 a1 hbad _).mono ?_
    rintro e w' ⟨rfl, hb⟩
    go_wp2_with fail
    go_ret
    exact ⟨by simp, hb⟩

theorem walk_LabFlows (a0 : Int) (w0 : (Lit.int .i64 a0).wf = true) (a1 : Int) (w1 : (Lit.int .i64 a1).wf = true) (w : World) :
    Calls Try.prog 7 #[.int .i64 a0, .int .i64 a1] w fun e w' => e = .returned (.bool true) ∧ Below w.heap.size w w' := by
  obtain ⟨h1, h2⟩ := wf_i64_bounds w0
  obtain ⟨h3, h4⟩ := wf_i64_bounds w1
  by_cases hok : (0 ≤ a0 ∧ a0 ≤ 255) ∧ (0 ≤ a1 ∧ a1 ≤ 255)
  · obtain ⟨⟨g1, g2⟩, g3, g4⟩ := hok
    obtain ⟨a, rfl⟩ := Int.eq_ofNat_of_zero_le g1
    obtain ⟨b, rfl⟩ := Int.eq_ofNat_of_zero_le g3
    have e := labFlows_eq a b (by omega) (by omega)
    have hr := labFlows_ok a b (by omega) (by omega)
    rw [e] at hr
    go_enter Try.func7, Try.ntmps7
    go_wp2_with fail
    refine (hr _).mono ?_
    rintro e w' ⟨rfl, rfl⟩
    go_wp2_with fail
    refine (labRefFlows_ok a b (by omega) (by omega) _).mono ?_
    rintro e w' ⟨rfl, rfl⟩
    go_wp2_with fail
    go_ret
    exact ⟨by simp, Below.refl _ _⟩
  · have hbad : (mayB a0 && mayB a1) = false := by simp only [mayB, Bool.and_eq_false_iff, decide_eq_false_iff_not]; omega
    go_enter Try.func7, Try.ntmps7
    go_wp2_with fail
    refine (labFlows_bad a0 a1 (by omega) (by omega) hbad _).mono ?_
    rintro e w' ⟨rfl, rfl⟩
    go_wp2_with fail
    refine (labRefFlows_bad a0 a1 hbad _).mono ?_
    rintro e w' ⟨rfl, rfl⟩
    go_wp2_with fail
    go_ret
    exact ⟨by simp, Below.refl _ _⟩
end Go.Proofs.Ytgafnnfgkkiedaa
