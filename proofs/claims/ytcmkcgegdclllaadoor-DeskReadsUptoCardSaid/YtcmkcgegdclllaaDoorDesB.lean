/- Contract of desk.fields. Conditions: none beyond what each theorem states. -/
import Derived.Test.YtcmkcgegdclllaaDoorDesA
import Derived.Carry
namespace Go.Proofs.YtcmkcgegdclllaaDoor
open Go.RowKit
set_option linter.unusedVariables false

set_option maxRecDepth 100000 in
set_option maxHeartbeats 8000000 in
theorem fields_any (g : Nat) (cs : Array Value) (w : World) (hg : Blk w g 29 cs) (hcs : cs.size = 8) :
    Calls Tryd.prog 17 #[.pointer (some ⟨g, 0, none⟩)] w fun e w' => ∃ bm n, e = .returned (.map (some bm)) ∧ n ≤ 31 ∧ FldMap w' g bm n (fun _ => true) ∧ Below w.heap.size w w' ∧ w.heap.size ≤ bm := by
  have hmm := @run_makeMap Tryd.prog
  go_enter Tryd.func17, Tryd.ntmps17
  go_upto_region 1 with fail
  refine wp_region_any (by kernel_rfl) ?_
  refine wpAny_of_z (out := []) (by kernel_rfl) (by intro c a d v w h; cases d <;> exact h) zF _ _ (f := 10) (by kernel_rfl) ?z (R := fun a' => a' = ?az) ?_
  case z =>
    simp only [pickOps, zF, List.map_cons, List.map_nil, List.getD_cons_zero, List.getD_cons_succ]
    repeat (go_big_quiet_step (fail))
    refine wpQuiet_nil ?_
    rfl
  rintro _ rfl
  refine wpAny_inv (FldInv w g _) ?fin ?step 10 _ _ _ (by decide +kernel) ⟨by decide +kernel, by decide +kernel, .inl ⟨by decide +kernel, by decide +kernel, by decide +kernel, by decide +kernel, rfl, (Below.refl _ _).drew⟩⟩
  case fin =>
    intro l a W hI hr
    obtain ⟨bm, n, h1, h2, h3, h4, rfl⟩ := hI.last hr (by kernel_rfl) (by kernel_rfl) (by kernel_rfl) (by kernel_rfl)
    go_wp2_with fail
    go_ret
    exact ⟨bm, n, rfl, h3, h4, h2, h1⟩
  case step =>
    intro l a W i hI hr
    obtain ⟨hun, _, _, hall⟩ := mem_ready.1 hr
    have hsz : l.size = 31 := hI.1
    have hi31 := lt_of_un hun
    rw [hsz] at hi31
    rcases place31 ⟨i, hi31⟩ with h | h | ⟨⟨j, hj⟩, h⟩ | h | h
    · dsimp only at h
      have := hI.2.1 i h
      rw [this] at hun
      cases hun
    · dsimp only at h
      subst h
      refine wpOp_of_single (by rfl) ?_
      have hM := hI.made hun
      obtain rfl := hI.beg hun
      clear hI hr hall hun
      go_wp2_with fail
      exact hM
    · dsimp only at h
      have hj7 : j = 0 ∨ j = 1 ∨ j = 2 ∨ j = 3 ∨ j = 4 ∨ j = 5 ∨ j = 6 := by omega
      subst h
      rcases hj7 with rfl | rfl | rfl | rfl | rfl | rfl | rfl
      all_goals
        obtain ⟨bm, W', rfl, hrun, hF⟩ := hI.at_ins hr (by kernel_rfl) rfl
        refine wpOp_of_single (by rfl) ?_
        clear hI hr hall hun
        go_wp2_with fail
        exact hF
    · dsimp only at h
      subst h
      have h0 := dep_of (k := 0) hr (by kernel_rfl)
      obtain ⟨bm, n, hA⟩ := hI.aft h0
      have hF := FldInv.mv hI.1 hI.2.1 h0 hA hun (fun j hj => by
        have hj7 : j = 0 ∨ j = 1 ∨ j = 2 ∨ j = 3 ∨ j = 4 ∨ j = 5 ∨ j = 6 := by omega
        rcases hj7 with rfl | rfl | rfl | rfl | rfl | rfl | rfl <;> exact dep_of hr (by kernel_rfl))
      obtain rfl := hA.a29 hun
      refine wpOp_of_single (by rfl) ?_
      clear hI hr hall hun hA
      go_wp2_with fail
      exact hF
    · dsimp only at h
      subst h
      have h0 := dep_of (k := 0) hr (by kernel_rfl)
      have h29 := dep_of (k := 29) hr (by kernel_rfl)
      obtain ⟨bm, n, hA⟩ := hI.aft h0
      have hF := FldInv.fin hI.1 hI.2.1 h0 hA hun h29
      obtain rfl := hA.a30 hun h29
      refine wpOp_of_single (by rfl) ?_
      clear hI hr hall hun hA h29 h0
      go_wp2_with fail
      exact hF
end Go.Proofs.YtcmkcgegdclllaaDoor
