/- The law DeskShows: how a step is opened; the walk. Conditions: none beyond what each theorem states. -/
import Derived.Test.YtcmkcgegdclllaaDoorDesF
import Derived.Test.YtcmkcgegdclllaaDoorOpen
namespace Go.Proofs.YtcmkcgegdclllaaDoor
open Go.RowKit Go.ChangeShapes Go.WideShapes Go.Deep
set_option linter.unusedVariables false

theorem show_any (x0 x1 x2 x3 x4 x5 x6 x7 : Int) (w : World) (hT : TabS w) (hx : ∀ x ∈ [x1, x2, x3, x4, x5, x6, x7], -9223372036854775808 ≤ x ∧ x ≤ 9223372036854775807) :
    Calls Tryd.prog 9 #[.agg #[.int .i64 x0, .int .i64 x1, .int .i64 x2, .int .i64 x3, .int .i64 x4, .int .i64 x5, .int .i64 x6, .int .i64 x7]] w (ShowPost [x0, x1, x2, x3, x4, x5, x6, x7] w) := by
  by_cases h : x0 < 1 ∨ 11 < x0
  · refine (show_bad x0 x1 x2 x3 x4 x5 x6 x7 w h).mono fun e w' ⟨he, hb⟩ => ?_
    have hs : showP [x0, x1, x2, x3, x4, x5, x6, x7] = ([], 3) := by unfold showP; rw [if_pos (by simpa [fld] using h)]
    unfold ShowPost
    rw [hs]
    exact ⟨he, hb⟩
  · obtain ⟨m, rfl⟩ : ∃ m : Nat, x0 = (m : Int) + 1 := ⟨(x0 - 1).toNat, by omega⟩
    refine (show_good m x1 x2 x3 x4 x5 x6 x7 w (by omega) hT hx).mono fun e w' ⟨l, c, he, hs, hb⟩ => ?_
    unfold ShowPost
    rw [hs]
    exact ⟨he, hb⟩
theorem shown_any (x0 x1 x2 x3 x4 x5 x6 x7 : Int) (w : World) (hx : ∀ x ∈ [x1, x2, x3, x4, x5, x6, x7], -9223372036854775808 ≤ x ∧ x ≤ 9223372036854775807) :
    Calls Tryd.prog 10 #[.agg #[.int .i64 x0, .int .i64 x1, .int .i64 x2, .int .i64 x3, .int .i64 x4, .int .i64 x5, .int .i64 x6, .int .i64 x7]] w (ShowPost [x0, x1, x2, x3, x4, x5, x6, x7] w) := by
  by_cases h : x0 < 1 ∨ 11 < x0
  · refine (shown_bad x0 x1 x2 x3 x4 x5 x6 x7 w h).mono fun e w' ⟨he, hb⟩ => ?_
    have hs : showP [x0, x1, x2, x3, x4, x5, x6, x7] = ([], 3) := by unfold showP; rw [if_pos (by simpa [fld] using h)]
    unfold ShowPost
    rw [hs]
    exact ⟨he, hb⟩
  · obtain ⟨m, rfl⟩ : ∃ m : Nat, x0 = (m : Int) + 1 := ⟨(x0 - 1).toNat, by omega⟩
    exact shown_good m x1 x2 x3 x4 x5 x6 x7 w (by omega) hx
set_option maxRecDepth 100000 in
theorem open_step {H : Type} {enc : TypeId × Value → H} {w : World} {r : Reach} {b0 base : Nat} {spare : Nat → Bool} {held : Bool} {v : Value} {d : DataW H} {ps : List MemPlace}
    (hval : Value.okWide Tryd.prog w r b0 29 v) (h : DataW.Trod enc Tryd.prog w base spare held 29 v d ps) : ∃ x0 x1 x2 x3 x4 x5 x6 x7 : Int, v = .agg #[.int .i64 x0, .int .i64 x1, .int .i64 x2, .int .i64 x3, .int .i64 x4, .int .i64 x5, .int .i64 x6, .int .i64 x7] ∧ ∀ x ∈ [x1, x2, x3, x4, x5, x6, x7], -9223372036854775808 ≤ x ∧ x ≤ 9223372036854775807 := by
  obtain ⟨cs, rfl, hsz⟩ := okWide_struct Tryd.underlying29 hval
  obtain ⟨n, h⟩ := h
  obtain ⟨hl, ys, _, _, m, hf⟩ := struct_cells Tryd.underlying29 (by kernel_rfl) (by kernel_rfl) h
  obtain ⟨v0, y0, c0, _, t0⟩ := hf 0 _ rfl
  obtain ⟨v1, y1, c1, _, t1⟩ := hf 1 _ rfl
  obtain ⟨v2, y2, c2, _, t2⟩ := hf 2 _ rfl
  obtain ⟨v3, y3, c3, _, t3⟩ := hf 3 _ rfl
  obtain ⟨v4, y4, c4, _, t4⟩ := hf 4 _ rfl
  obtain ⟨v5, y5, c5, _, t5⟩ := hf 5 _ rfl
  obtain ⟨v6, y6, c6, _, t6⟩ := hf 6 _ rfl
  obtain ⟨v7, y7, c7, _, t7⟩ := hf 7 _ rfl
  obtain ⟨z0, e0, _, w0⟩ := DataW.trod_int Tryd.underlying3 t0
  obtain ⟨z1, e1, _, w1⟩ := DataW.trod_int Tryd.underlying3 t1
  obtain ⟨z2, e2, _, w2⟩ := DataW.trod_int Tryd.underlying3 t2
  obtain ⟨z3, e3, _, w3⟩ := DataW.trod_int Tryd.underlying3 t3
  obtain ⟨z4, e4, _, w4⟩ := DataW.trod_int Tryd.underlying3 t4
  obtain ⟨z5, e5, _, w5⟩ := DataW.trod_int Tryd.underlying3 t5
  obtain ⟨z6, e6, _, w6⟩ := DataW.trod_int Tryd.underlying3 t6
  obtain ⟨z7, e7, _, w7⟩ := DataW.trod_int Tryd.underlying3 t7
  simp at e0 e1 e2 e3 e4 e5 e6 e7
  subst e0 e1 e2 e3 e4 e5 e6 e7
  refine ⟨z0, z1, z2, z3, z4, z5, z6, z7, ?_, ?_⟩
  · obtain ⟨l⟩ := cs
    have hl' : l.length = 8 := hl
    match l, hl' with
    | [a, b, c, d, e, f, g, h], _ =>
      simp [Value.cells] at c0 c1 c2 c3 c4 c5 c6 c7
      subst c0 c1 c2 c3 c4 c5 c6 c7
      rfl
  · intro x hx
    simp only [List.mem_cons, List.not_mem_nil, or_false] at hx
    rcases hx with rfl | rfl | rfl | rfl | rfl | rfl | rfl
    · exact wf_i64_bounds w1
    · exact wf_i64_bounds w2
    · exact wf_i64_bounds w3
    · exact wf_i64_bounds w4
    · exact wf_i64_bounds w5
    · exact wf_i64_bounds w6
    · exact wf_i64_bounds w7
set_option maxRecDepth 100000 in
set_option maxHeartbeats 4000000 in
theorem walk_DeskShows (x0 x1 x2 x3 x4 x5 x6 x7 : Int) (w : World) (hT : TabS w) (hx : ∀ x ∈ [x1, x2, x3, x4, x5, x6, x7], -9223372036854775808 ≤ x ∧ x ≤ 9223372036854775807) :
    Calls Tryd.prog 4 #[.agg #[.int .i64 x0, .int .i64 x1, .int .i64 x2, .int .i64 x3, .int .i64 x4, .int .i64 x5, .int .i64 x6, .int .i64 x7]] w fun e w' => e = .returned (.bool true) ∧ Below w.heap.size w w' := by
  have H1 := hide (fun W (hW : Below w.heap.size w W) => show_any x0 x1 x2 x3 x4 x5 x6 x7 W (hT.below hW) hx)
  have H2 := hide (fun W => shown_any x0 x1 x2 x3 x4 x5 x6 x7 W hx)
  unfold ShowPost at H1 H2
  generalize showP [x0, x1, x2, x3, x4, x5, x6, x7] = R at H1 H2
  obtain ⟨l, c⟩ := R
  dsimp only at H1 H2
  generalize bstr l = S at H1 H2
  obtain ⟨wx, hwx⟩ : ∃ wx, wx = w.alloc (.cells #[.int .i64 x0, .int .i64 x1, .int .i64 x2, .int .i64 x3, .int .i64 x4, .int .i64 x5, .int .i64 x6, .int .i64 x7] 29) := ⟨_, rfl⟩
  have hbx : Below w.heap.size w wx := by rw [hwx]; exact (Below.refl _ _).alloc (Nat.le_refl _) _
  obtain ⟨p, hp⟩ : ∃ p, p = w.heap.size := ⟨_, rfl⟩
  have kp : Blk wx p 29 #[.int .i64 x0, .int .i64 x1, .int .i64 x2, .int .i64 x3, .int .i64 x4, .int .i64 x5, .int .i64 x6, .int .i64 x7] := by rw [hwx, hp]; exact Blk.new _ _ _
  have HP := hide hp
  have HWX := hide hwx
  have HBX := hide hbx
  have k0 := fun (W : World) (hz : Below wx.heap.size wx W) => show W.cell? ⟨p, 0, none⟩ = some (.int .i64 x0) from (kp.below hz kp.lt).cell 0
  have k1 := fun (W : World) (hz : Below wx.heap.size wx W) => show W.cell? ⟨p, 1, none⟩ = some (.int .i64 x1) from (kp.below hz kp.lt).cell 1
  have k2 := fun (W : World) (hz : Below wx.heap.size wx W) => show W.cell? ⟨p, 2, none⟩ = some (.int .i64 x2) from (kp.below hz kp.lt).cell 2
  have k3 := fun (W : World) (hz : Below wx.heap.size wx W) => show W.cell? ⟨p, 3, none⟩ = some (.int .i64 x3) from (kp.below hz kp.lt).cell 3
  have k4 := fun (W : World) (hz : Below wx.heap.size wx W) => show W.cell? ⟨p, 4, none⟩ = some (.int .i64 x4) from (kp.below hz kp.lt).cell 4
  have k5 := fun (W : World) (hz : Below wx.heap.size wx W) => show W.cell? ⟨p, 5, none⟩ = some (.int .i64 x5) from (kp.below hz kp.lt).cell 5
  have k6 := fun (W : World) (hz : Below wx.heap.size wx W) => show W.cell? ⟨p, 6, none⟩ = some (.int .i64 x6) from (kp.below hz kp.lt).cell 6
  have k7 := fun (W : World) (hz : Below wx.heap.size wx W) => show W.cell? ⟨p, 7, none⟩ = some (.int .i64 x7) from (kp.below hz kp.lt).cell 7
  have hz1 : Below wx.heap.size wx wx := Below.refl _ _
  clear hp hwx hbx kp hx hT
  go_enter Tryd.func4, Tryd.ntmps4
  go_upto_region 1 with fail
  rw [← unhide HP, ← unhide HWX]
  go_wp2_with fail
  refine (unhide H1 wx (unhide HBX)).mono ?_
  rintro _ w2 ⟨rfl, hb2⟩
  have hz2 : Below wx.heap.size wx w2 := hb2
  have HB2 := hide ((unhide HBX).trans (hb2.mono (unhide HBX).size))
  clear hb2
  go_wp2_with fail
  refine (unhide H2 w2).mono ?_
  rintro _ w3 ⟨rfl, hb3⟩
  have HB3 := hide ((unhide HB2).trans (hb3.mono (unhide HB2).size))
  clear hb3
  go_wp2_with fail
  go_ret
  exact ⟨rfl, unhide HB3⟩
end Go.Proofs.YtcmkcgegdclllaaDoor
