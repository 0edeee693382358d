/- Contract of the reference's named. Conditions: none beyond what each theorem states. (Written by wip/gen/named.py.) -/
import Derived.Test.YtcmkcgegdclllaaDoorDesC
import Derived.Test.YtcmkcgegdclllaaDoorTreeU
namespace Go.Proofs.YtcmkcgegdclllaaDoor
open Go.RowKit
set_option linter.unusedVariables false

/-- two rows of numbers that lie somewhere -/
def NamPost (m : Nat) (xs : List Int) (w : World) (e : Ending) (w' : World) : Prop :=
  ∃ A B c d, e = .returned (.tuple #[.string (bstr (wordL m)), .slice A (selL m).length c, .slice B (restL m).length d]) ∧ Reads w' w'.heap.size 1 A (selL m).length ((selL m).map fun j => .int .i64 (fld xs j)) ∧ Reads w' w'.heap.size 1 B (restL m).length ((restL m).map fun j => .int .i64 (fld xs j)) ∧ Below w.heap.size w w'
theorem nam_row {W : World} {g n : Nat} {cs : List Value} {xs : List Value} (h : Blk W g 3 cs.toArray) (hc : cs = xs) (hn : xs.length = n) : Reads W W.heap.size 1 (some ⟨g, 0, none⟩) n xs := by
  subst hc hn
  exact reads_of_blk h h.lt
def treeN (i j : Nat) : OT :=
  .fork (.next i (.fork (.next j (.next 17 (.next 18 .done))) (.next 17 (.next j (.next 18 .done))))) (.next j (.next i (.next 17 (.next 18 .done))))
set_option maxRecDepth 100000 in
set_option maxHeartbeats 4000000 in
theorem named1 (x1 x2 x3 x4 x5 x6 x7 : Int) (w : World) :
    Calls Tryd.prog 20 #[.agg #[.int .i64 1, .int .i64 x1, .int .i64 x2, .int .i64 x3, .int .i64 x4, .int .i64 x5, .int .i64 x6, .int .i64 x7]] w (NamPost 0 [1, x1, x2, x3, x4, x5, x6, x7] w) := by
  obtain ⟨wx, hwx⟩ : ∃ wx, wx = w.alloc (.cells #[.int .i64 1, .int .i64 x1, .int .i64 x2, .int .i64 x3, .int .i64 x4, .int .i64 x5, .int .i64 x6, .int .i64 x7] 29) := ⟨_, rfl⟩
  have hbx : Below w.heap.size w wx := by rw [hwx]; exact (Below.refl _ _).alloc (Nat.le_refl _) _
  obtain ⟨p, hp⟩ : ∃ p, p = w.heap.size := ⟨_, rfl⟩
  have kp : Blk wx p 29 #[.int .i64 1, .int .i64 x1, .int .i64 x2, .int .i64 x3, .int .i64 x4, .int .i64 x5, .int .i64 x6, .int .i64 x7] := by rw [hwx, hp]; exact Blk.new _ _ _
  have HP := hide hp
  have HWX := hide hwx
  have HBX := hide hbx
  have c0 : wx.cell? ⟨p, 0, none⟩ = some (.int .i64 1) := kp.cell 0
  have d1 := fun n : Ext wx => n.cell (v := .int .i64 x1) (kp.cell 1)
  have d2 := fun n : Ext wx => n.cell (v := .int .i64 x2) (kp.cell 2)
  have d3 := fun n : Ext wx => n.cell (v := .int .i64 x3) (kp.cell 3)
  have d4 := fun n : Ext wx => n.cell (v := .int .i64 x4) (kp.cell 4)
  have d5 := fun n : Ext wx => n.cell (v := .int .i64 x5) (kp.cell 5)
  have d6 := fun n : Ext wx => n.cell (v := .int .i64 x6) (kp.cell 6)
  have d7 := fun n : Ext wx => n.cell (v := .int .i64 x7) (kp.cell 7)
  clear hp hwx hbx kp
  go_enter Tryd.func20, Tryd.ntmps20
  go_upto_region 1 with fail
  rw [← unhide HP, ← unhide HWX]
  go_upto_region 3 with fail
  refine wp_region_calm_tree [0, 2, 4, 7, 9, 11, 13, 16] [1, 3, 5, 8, 10, 12, 14] [6, 15, 17] 18 [] (treeN 6 15) (by kernel_rfl) (by kernel_rfl) (by intro c a d v w h; cases d <;> exact h) ?_
  simp only [pickOps, List.map_cons, List.map_nil, List.getD_cons_zero, List.getD_cons_succ]
  repeat (go_big_quiet_step (fail))
  refine wpQuiet_nil ?_
  repeat (go_big_quiet_step (fail))
  refine wpQuiet_nil ?_
  obtain ⟨wd, hwd⟩ : ∃ wd, wd = wx.drew := ⟨_, rfl⟩
  have hd0 : Below wx.heap.size wx wd := by rw [hwd]; exact (Below.refl _ _).drew
  have HBD := hide ((unhide HBX).trans (hd0.mono (unhide HBX).size))
  rw [← hwd]
  clear hwd d1 d2 d3 d4 d5 d6 d7 c0
  unfold treeN
  refine wpT_fork ?_ ?_
  · refine wpT_step fun K hK => ?_
    simp only [pickOps, List.map_cons, List.map_nil, List.getD_cons_zero, List.getD_cons_succ]
    go_wp2_with fail
    refine hK _ _ (fun _ => ⟨⟨_, hd0.alloc hd0.size _⟩, rfl⟩) ?_
    clear hK K
    refine wpT_fork ?_ ?_
    · refine wpT_step fun K hK => ?_
      simp only [pickOps, List.map_cons, List.map_nil, List.getD_cons_zero, List.getD_cons_succ]
      go_wp2_with fail
      refine hK _ _ (fun _ => ⟨⟨_, (hd0.alloc hd0.size _).alloc (by simp; have := hd0.size; omega) _⟩, rfl⟩) ?_
      clear hK K
      refine wpT_step fun K hK => ?_
      simp only [pickOps, List.map_cons, List.map_nil, List.getD_cons_zero, List.getD_cons_succ]
      go_wp2_with fail
      refine hK _ _ (fun _ => ⟨⟨_, (hd0.alloc hd0.size _).alloc (by simp; have := hd0.size; omega) _⟩, rfl⟩) ?_
      clear hK K
      refine wpT_step fun K hK => ?_
      simp only [pickOps, List.map_cons, List.map_nil, List.getD_cons_zero, List.getD_cons_succ]
      go_wp2_with fail
      refine hK _ _ (fun h => absurd h (by decide)) ?_
      clear hK K
      refine wpT_done ?_
      go_wp2_with fail
      have hA : Blk ((wd.alloc (.cells #[.int .i64 x1, .int .i64 x2, .int .i64 x3] 3)).alloc (.cells #[.int .i64 x4, .int .i64 x5, .int .i64 x6, .int .i64 x7] 3)) wd.heap.size 3 #[.int .i64 x1, .int .i64 x2, .int .i64 x3] := (Blk.new wd _ _).alloc _
      have hB : Blk ((wd.alloc (.cells #[.int .i64 x1, .int .i64 x2, .int .i64 x3] 3)).alloc (.cells #[.int .i64 x4, .int .i64 x5, .int .i64 x6, .int .i64 x7] 3)) (wd.heap.size + 1) 3 #[.int .i64 x4, .int .i64 x5, .int .i64 x6, .int .i64 x7] := by
        have h := Blk.new (wd.alloc (.cells #[.int .i64 x1, .int .i64 x2, .int .i64 x3] 3)) 3 #[.int .i64 x4, .int .i64 x5, .int .i64 x6, .int .i64 x7]
        simpa using h
      exact bodyPost_ret (v := .tuple #[.string (bstr (wordL 0)), .slice (some ⟨wd.heap.size, 0, none⟩) 3 3, .slice (some ⟨wd.heap.size + 1, 0, none⟩) 4 4]) (by simp [results, Tryd.results20, go_sem]; rfl) rfl ⟨_, _, _, _, rfl, nam_row hA rfl rfl, nam_row hB rfl rfl, ((unhide HBD).alloc (unhide HBD).size _).alloc (by simp; have := (unhide HBD).size; omega) _⟩
    · refine wpT_step fun K hK => ?_
      simp only [pickOps, List.map_cons, List.map_nil, List.getD_cons_zero, List.getD_cons_succ]
      go_wp2_with fail
      refine hK _ _ (fun _ => ⟨⟨_, hd0.alloc hd0.size _⟩, rfl⟩) ?_
      clear hK K
      refine wpT_step fun K hK => ?_
      simp only [pickOps, List.map_cons, List.map_nil, List.getD_cons_zero, List.getD_cons_succ]
      go_wp2_with fail
      refine hK _ _ (fun _ => ⟨⟨_, (hd0.alloc hd0.size _).alloc (by simp; have := hd0.size; omega) _⟩, rfl⟩) ?_
      clear hK K
      refine wpT_step fun K hK => ?_
      simp only [pickOps, List.map_cons, List.map_nil, List.getD_cons_zero, List.getD_cons_succ]
      go_wp2_with fail
      refine hK _ _ (fun h => absurd h (by decide)) ?_
      clear hK K
      refine wpT_done ?_
      go_wp2_with fail
      have hA : Blk ((wd.alloc (.cells #[.int .i64 x1, .int .i64 x2, .int .i64 x3] 3)).alloc (.cells #[.int .i64 x4, .int .i64 x5, .int .i64 x6, .int .i64 x7] 3)) wd.heap.size 3 #[.int .i64 x1, .int .i64 x2, .int .i64 x3] := (Blk.new wd _ _).alloc _
      have hB : Blk ((wd.alloc (.cells #[.int .i64 x1, .int .i64 x2, .int .i64 x3] 3)).alloc (.cells #[.int .i64 x4, .int .i64 x5, .int .i64 x6, .int .i64 x7] 3)) (wd.heap.size + 1) 3 #[.int .i64 x4, .int .i64 x5, .int .i64 x6, .int .i64 x7] := by
        have h := Blk.new (wd.alloc (.cells #[.int .i64 x1, .int .i64 x2, .int .i64 x3] 3)) 3 #[.int .i64 x4, .int .i64 x5, .int .i64 x6, .int .i64 x7]
        simpa using h
      exact bodyPost_ret (v := .tuple #[.string (bstr (wordL 0)), .slice (some ⟨wd.heap.size, 0, none⟩) 3 3, .slice (some ⟨wd.heap.size + 1, 0, none⟩) 4 4]) (by simp [results, Tryd.results20, go_sem]; rfl) rfl ⟨_, _, _, _, rfl, nam_row hA rfl rfl, nam_row hB rfl rfl, ((unhide HBD).alloc (unhide HBD).size _).alloc (by simp; have := (unhide HBD).size; omega) _⟩
  · refine wpT_step fun K hK => ?_
    simp only [pickOps, List.map_cons, List.map_nil, List.getD_cons_zero, List.getD_cons_succ]
    go_wp2_with fail
    refine hK _ _ (fun _ => ⟨⟨_, hd0.alloc hd0.size _⟩, rfl⟩) ?_
    clear hK K
    refine wpT_step fun K hK => ?_
    simp only [pickOps, List.map_cons, List.map_nil, List.getD_cons_zero, List.getD_cons_succ]
    go_wp2_with fail
    refine hK _ _ (fun _ => ⟨⟨_, (hd0.alloc hd0.size _).alloc (by simp; have := hd0.size; omega) _⟩, rfl⟩) ?_
    clear hK K
    refine wpT_step fun K hK => ?_
    simp only [pickOps, List.map_cons, List.map_nil, List.getD_cons_zero, List.getD_cons_succ]
    go_wp2_with fail
    refine hK _ _ (fun _ => ⟨⟨_, (hd0.alloc hd0.size _).alloc (by simp; have := hd0.size; omega) _⟩, rfl⟩) ?_
    clear hK K
    refine wpT_step fun K hK => ?_
    simp only [pickOps, List.map_cons, List.map_nil, List.getD_cons_zero, List.getD_cons_succ]
    go_wp2_with fail
    refine hK _ _ (fun h => absurd h (by decide)) ?_
    clear hK K
    refine wpT_done ?_
    go_wp2_with fail
    have hA : Blk ((wd.alloc (.cells #[.int .i64 x4, .int .i64 x5, .int .i64 x6, .int .i64 x7] 3)).alloc (.cells #[.int .i64 x1, .int .i64 x2, .int .i64 x3] 3)) wd.heap.size 3 #[.int .i64 x4, .int .i64 x5, .int .i64 x6, .int .i64 x7] := (Blk.new wd _ _).alloc _
    have hB : Blk ((wd.alloc (.cells #[.int .i64 x4, .int .i64 x5, .int .i64 x6, .int .i64 x7] 3)).alloc (.cells #[.int .i64 x1, .int .i64 x2, .int .i64 x3] 3)) (wd.heap.size + 1) 3 #[.int .i64 x1, .int .i64 x2, .int .i64 x3] := by
      have h := Blk.new (wd.alloc (.cells #[.int .i64 x4, .int .i64 x5, .int .i64 x6, .int .i64 x7] 3)) 3 #[.int .i64 x1, .int .i64 x2, .int .i64 x3]
      simpa using h
    exact bodyPost_ret (v := .tuple #[.string (bstr (wordL 0)), .slice (some ⟨wd.heap.size + 1, 0, none⟩) 3 3, .slice (some ⟨wd.heap.size, 0, none⟩) 4 4]) (by simp [results, Tryd.results20, go_sem]; rfl) rfl ⟨_, _, _, _, rfl, nam_row hB rfl rfl, nam_row hA rfl rfl, ((unhide HBD).alloc (unhide HBD).size _).alloc (by simp; have := (unhide HBD).size; omega) _⟩
set_option maxRecDepth 100000 in
set_option maxHeartbeats 4000000 in
theorem named2 (x1 x2 x3 x4 x5 x6 x7 : Int) (w : World) :
    Calls Tryd.prog 20 #[.agg #[.int .i64 2, .int .i64 x1, .int .i64 x2, .int .i64 x3, .int .i64 x4, .int .i64 x5, .int .i64 x6, .int .i64 x7]] w (NamPost 1 [2, x1, x2, x3, x4, x5, x6, x7] w) := by
  obtain ⟨wx, hwx⟩ : ∃ wx, wx = w.alloc (.cells #[.int .i64 2, .int .i64 x1, .int .i64 x2, .int .i64 x3, .int .i64 x4, .int .i64 x5, .int .i64 x6, .int .i64 x7] 29) := ⟨_, rfl⟩
  have hbx : Below w.heap.size w wx := by rw [hwx]; exact (Below.refl _ _).alloc (Nat.le_refl _) _
  obtain ⟨p, hp⟩ : ∃ p, p = w.heap.size := ⟨_, rfl⟩
  have kp : Blk wx p 29 #[.int .i64 2, .int .i64 x1, .int .i64 x2, .int .i64 x3, .int .i64 x4, .int .i64 x5, .int .i64 x6, .int .i64 x7] := by rw [hwx, hp]; exact Blk.new _ _ _
  have HP := hide hp
  have HWX := hide hwx
  have HBX := hide hbx
  have c0 : wx.cell? ⟨p, 0, none⟩ = some (.int .i64 2) := kp.cell 0
  have d1 := fun n : Ext wx => n.cell (v := .int .i64 x1) (kp.cell 1)
  have d2 := fun n : Ext wx => n.cell (v := .int .i64 x2) (kp.cell 2)
  have d3 := fun n : Ext wx => n.cell (v := .int .i64 x3) (kp.cell 3)
  have d4 := fun n : Ext wx => n.cell (v := .int .i64 x4) (kp.cell 4)
  have d5 := fun n : Ext wx => n.cell (v := .int .i64 x5) (kp.cell 5)
  have d6 := fun n : Ext wx => n.cell (v := .int .i64 x6) (kp.cell 6)
  have d7 := fun n : Ext wx => n.cell (v := .int .i64 x7) (kp.cell 7)
  clear hp hwx hbx kp
  go_enter Tryd.func20, Tryd.ntmps20
  go_upto_region 1 with fail
  rw [← unhide HP, ← unhide HWX]
  go_upto_region 5 with fail
  refine wp_region_calm_tree [0, 2, 4, 7, 9, 11, 13, 16] [1, 3, 5, 8, 10, 12, 14] [6, 15, 17] 18 [] (treeN 6 15) (by kernel_rfl) (by kernel_rfl) (by intro c a d v w h; cases d <;> exact h) ?_
  simp only [pickOps, List.map_cons, List.map_nil, List.getD_cons_zero, List.getD_cons_succ]
  repeat (go_big_quiet_step (fail))
  refine wpQuiet_nil ?_
  repeat (go_big_quiet_step (fail))
  refine wpQuiet_nil ?_
  obtain ⟨wd, hwd⟩ : ∃ wd, wd = wx.drew := ⟨_, rfl⟩
  have hd0 : Below wx.heap.size wx wd := by rw [hwd]; exact (Below.refl _ _).drew
  have HBD := hide ((unhide HBX).trans (hd0.mono (unhide HBX).size))
  rw [← hwd]
  clear hwd d1 d2 d3 d4 d5 d6 d7 c0
  unfold treeN
  refine wpT_fork ?_ ?_
  · refine wpT_step fun K hK => ?_
    simp only [pickOps, List.map_cons, List.map_nil, List.getD_cons_zero, List.getD_cons_succ]
    go_wp2_with fail
    refine hK _ _ (fun _ => ⟨⟨_, hd0.alloc hd0.size _⟩, rfl⟩) ?_
    clear hK K
    refine wpT_fork ?_ ?_
    · refine wpT_step fun K hK => ?_
      simp only [pickOps, List.map_cons, List.map_nil, List.getD_cons_zero, List.getD_cons_succ]
      go_wp2_with fail
      refine hK _ _ (fun _ => ⟨⟨_, (hd0.alloc hd0.size _).alloc (by simp; have := hd0.size; omega) _⟩, rfl⟩) ?_
      clear hK K
      refine wpT_step fun K hK => ?_
      simp only [pickOps, List.map_cons, List.map_nil, List.getD_cons_zero, List.getD_cons_succ]
      go_wp2_with fail
      refine hK _ _ (fun _ => ⟨⟨_, (hd0.alloc hd0.size _).alloc (by simp; have := hd0.size; omega) _⟩, rfl⟩) ?_
      clear hK K
      refine wpT_step fun K hK => ?_
      simp only [pickOps, List.map_cons, List.map_nil, List.getD_cons_zero, List.getD_cons_succ]
      go_wp2_with fail
      refine hK _ _ (fun h => absurd h (by decide)) ?_
      clear hK K
      refine wpT_done ?_
      go_wp2_with fail
      have hA : Blk ((wd.alloc (.cells #[.int .i64 x1, .int .i64 x2, .int .i64 x3] 3)).alloc (.cells #[.int .i64 x4, .int .i64 x5, .int .i64 x6, .int .i64 x7] 3)) wd.heap.size 3 #[.int .i64 x1, .int .i64 x2, .int .i64 x3] := (Blk.new wd _ _).alloc _
      have hB : Blk ((wd.alloc (.cells #[.int .i64 x1, .int .i64 x2, .int .i64 x3] 3)).alloc (.cells #[.int .i64 x4, .int .i64 x5, .int .i64 x6, .int .i64 x7] 3)) (wd.heap.size + 1) 3 #[.int .i64 x4, .int .i64 x5, .int .i64 x6, .int .i64 x7] := by
        have h := Blk.new (wd.alloc (.cells #[.int .i64 x1, .int .i64 x2, .int .i64 x3] 3)) 3 #[.int .i64 x4, .int .i64 x5, .int .i64 x6, .int .i64 x7]
        simpa using h
      exact bodyPost_ret (v := .tuple #[.string (bstr (wordL 1)), .slice (some ⟨wd.heap.size, 0, none⟩) 3 3, .slice (some ⟨wd.heap.size + 1, 0, none⟩) 4 4]) (by simp [results, Tryd.results20, go_sem]; rfl) rfl ⟨_, _, _, _, rfl, nam_row hA rfl rfl, nam_row hB rfl rfl, ((unhide HBD).alloc (unhide HBD).size _).alloc (by simp; have := (unhide HBD).size; omega) _⟩
    · refine wpT_step fun K hK => ?_
      simp only [pickOps, List.map_cons, List.map_nil, List.getD_cons_zero, List.getD_cons_succ]
      go_wp2_with fail
      refine hK _ _ (fun _ => ⟨⟨_, hd0.alloc hd0.size _⟩, rfl⟩) ?_
      clear hK K
      refine wpT_step fun K hK => ?_
      simp only [pickOps, List.map_cons, List.map_nil, List.getD_cons_zero, List.getD_cons_succ]
      go_wp2_with fail
      refine hK _ _ (fun _ => ⟨⟨_, (hd0.alloc hd0.size _).alloc (by simp; have := hd0.size; omega) _⟩, rfl⟩) ?_
      clear hK K
      refine wpT_step fun K hK => ?_
      simp only [pickOps, List.map_cons, List.map_nil, List.getD_cons_zero, List.getD_cons_succ]
      go_wp2_with fail
      refine hK _ _ (fun h => absurd h (by decide)) ?_
      clear hK K
      refine wpT_done ?_
      go_wp2_with fail
      have hA : Blk ((wd.alloc (.cells #[.int .i64 x1, .int .i64 x2, .int .i64 x3] 3)).alloc (.cells #[.int .i64 x4, .int .i64 x5, .int .i64 x6, .int .i64 x7] 3)) wd.heap.size 3 #[.int .i64 x1, .int .i64 x2, .int .i64 x3] := (Blk.new wd _ _).alloc _
      have hB : Blk ((wd.alloc (.cells #[.int .i64 x1, .int .i64 x2, .int .i64 x3] 3)).alloc (.cells #[.int .i64 x4, .int .i64 x5, .int .i64 x6, .int .i64 x7] 3)) (wd.heap.size + 1) 3 #[.int .i64 x4, .int .i64 x5, .int .i64 x6, .int .i64 x7] := by
        have h := Blk.new (wd.alloc (.cells #[.int .i64 x1, .int .i64 x2, .int .i64 x3] 3)) 3 #[.int .i64 x4, .int .i64 x5, .int .i64 x6, .int .i64 x7]
        simpa using h
      exact bodyPost_ret (v := .tuple #[.string (bstr (wordL 1)), .slice (some ⟨wd.heap.size, 0, none⟩) 3 3, .slice (some ⟨wd.heap.size + 1, 0, none⟩) 4 4]) (by simp [results, Tryd.results20, go_sem]; rfl) rfl ⟨_, _, _, _, rfl, nam_row hA rfl rfl, nam_row hB rfl rfl, ((unhide HBD).alloc (unhide HBD).size _).alloc (by simp; have := (unhide HBD).size; omega) _⟩
  · refine wpT_step fun K hK => ?_
    simp only [pickOps, List.map_cons, List.map_nil, List.getD_cons_zero, List.getD_cons_succ]
    go_wp2_with fail
    refine hK _ _ (fun _ => ⟨⟨_, hd0.alloc hd0.size _⟩, rfl⟩) ?_
    clear hK K
    refine wpT_step fun K hK => ?_
    simp only [pickOps, List.map_cons, List.map_nil, List.getD_cons_zero, List.getD_cons_succ]
    go_wp2_with fail
    refine hK _ _ (fun _ => ⟨⟨_, (hd0.alloc hd0.size _).alloc (by simp; have := hd0.size; omega) _⟩, rfl⟩) ?_
    clear hK K
    refine wpT_step fun K hK => ?_
    simp only [pickOps, List.map_cons, List.map_nil, List.getD_cons_zero, List.getD_cons_succ]
    go_wp2_with fail
    refine hK _ _ (fun _ => ⟨⟨_, (hd0.alloc hd0.size _).alloc (by simp; have := hd0.size; omega) _⟩, rfl⟩) ?_
    clear hK K
    refine wpT_step fun K hK => ?_
    simp only [pickOps, List.map_cons, List.map_nil, List.getD_cons_zero, List.getD_cons_succ]
    go_wp2_with fail
    refine hK _ _ (fun h => absurd h (by decide)) ?_
    clear hK K
    refine wpT_done ?_
    go_wp2_with fail
    have hA : Blk ((wd.alloc (.cells #[.int .i64 x4, .int .i64 x5, .int .i64 x6, .int .i64 x7] 3)).alloc (.cells #[.int .i64 x1, .int .i64 x2, .int .i64 x3] 3)) wd.heap.size 3 #[.int .i64 x4, .int .i64 x5, .int .i64 x6, .int .i64 x7] := (Blk.new wd _ _).alloc _
    have hB : Blk ((wd.alloc (.cells #[.int .i64 x4, .int .i64 x5, .int .i64 x6, .int .i64 x7] 3)).alloc (.cells #[.int .i64 x1, .int .i64 x2, .int .i64 x3] 3)) (wd.heap.size + 1) 3 #[.int .i64 x1, .int .i64 x2, .int .i64 x3] := by
      have h := Blk.new (wd.alloc (.cells #[.int .i64 x4, .int .i64 x5, .int .i64 x6, .int .i64 x7] 3)) 3 #[.int .i64 x1, .int .i64 x2, .int .i64 x3]
      simpa using h
    exact bodyPost_ret (v := .tuple #[.string (bstr (wordL 1)), .slice (some ⟨wd.heap.size + 1, 0, none⟩) 3 3, .slice (some ⟨wd.heap.size, 0, none⟩) 4 4]) (by simp [results, Tryd.results20, go_sem]; rfl) rfl ⟨_, _, _, _, rfl, nam_row hB rfl rfl, nam_row hA rfl rfl, ((unhide HBD).alloc (unhide HBD).size _).alloc (by simp; have := (unhide HBD).size; omega) _⟩
set_option maxRecDepth 100000 in
set_option maxHeartbeats 4000000 in
theorem named3 (x1 x2 x3 x4 x5 x6 x7 : Int) (w : World) :
    Calls Tryd.prog 20 #[.agg #[.int .i64 3, .int .i64 x1, .int .i64 x2, .int .i64 x3, .int .i64 x4, .int .i64 x5, .int .i64 x6, .int .i64 x7]] w (NamPost 2 [3, x1, x2, x3, x4, x5, x6, x7] w) := by
  obtain ⟨wx, hwx⟩ : ∃ wx, wx = w.alloc (.cells #[.int .i64 3, .int .i64 x1, .int .i64 x2, .int .i64 x3, .int .i64 x4, .int .i64 x5, .int .i64 x6, .int .i64 x7] 29) := ⟨_, rfl⟩
  have hbx : Below w.heap.size w wx := by rw [hwx]; exact (Below.refl _ _).alloc (Nat.le_refl _) _
  obtain ⟨p, hp⟩ : ∃ p, p = w.heap.size := ⟨_, rfl⟩
  have kp : Blk wx p 29 #[.int .i64 3, .int .i64 x1, .int .i64 x2, .int .i64 x3, .int .i64 x4, .int .i64 x5, .int .i64 x6, .int .i64 x7] := by rw [hwx, hp]; exact Blk.new _ _ _
  have HP := hide hp
  have HWX := hide hwx
  have HBX := hide hbx
  have c0 : wx.cell? ⟨p, 0, none⟩ = some (.int .i64 3) := kp.cell 0
  have d1 := fun n : Ext wx => n.cell (v := .int .i64 x1) (kp.cell 1)
  have d2 := fun n : Ext wx => n.cell (v := .int .i64 x2) (kp.cell 2)
  have d3 := fun n : Ext wx => n.cell (v := .int .i64 x3) (kp.cell 3)
  have d4 := fun n : Ext wx => n.cell (v := .int .i64 x4) (kp.cell 4)
  have d5 := fun n : Ext wx => n.cell (v := .int .i64 x5) (kp.cell 5)
  have d6 := fun n : Ext wx => n.cell (v := .int .i64 x6) (kp.cell 6)
  have d7 := fun n : Ext wx => n.cell (v := .int .i64 x7) (kp.cell 7)
  clear hp hwx hbx kp
  go_enter Tryd.func20, Tryd.ntmps20
  go_upto_region 1 with fail
  rw [← unhide HP, ← unhide HWX]
  go_upto_region 7 with fail
  refine wp_region_calm_tree [0, 2, 4, 6, 9, 11, 13, 16] [1, 3, 5, 7, 10, 12, 14] [8, 15, 17] 18 [] (treeN 8 15) (by kernel_rfl) (by kernel_rfl) (by intro c a d v w h; cases d <;> exact h) ?_
  simp only [pickOps, List.map_cons, List.map_nil, List.getD_cons_zero, List.getD_cons_succ]
  repeat (go_big_quiet_step (fail))
  refine wpQuiet_nil ?_
  repeat (go_big_quiet_step (fail))
  refine wpQuiet_nil ?_
  obtain ⟨wd, hwd⟩ : ∃ wd, wd = wx.drew := ⟨_, rfl⟩
  have hd0 : Below wx.heap.size wx wd := by rw [hwd]; exact (Below.refl _ _).drew
  have HBD := hide ((unhide HBX).trans (hd0.mono (unhide HBX).size))
  rw [← hwd]
  clear hwd d1 d2 d3 d4 d5 d6 d7 c0
  unfold treeN
  refine wpT_fork ?_ ?_
  · refine wpT_step fun K hK => ?_
    simp only [pickOps, List.map_cons, List.map_nil, List.getD_cons_zero, List.getD_cons_succ]
    go_wp2_with fail
    refine hK _ _ (fun _ => ⟨⟨_, hd0.alloc hd0.size _⟩, rfl⟩) ?_
    clear hK K
    refine wpT_fork ?_ ?_
    · refine wpT_step fun K hK => ?_
      simp only [pickOps, List.map_cons, List.map_nil, List.getD_cons_zero, List.getD_cons_succ]
      go_wp2_with fail
      refine hK _ _ (fun _ => ⟨⟨_, (hd0.alloc hd0.size _).alloc (by simp; have := hd0.size; omega) _⟩, rfl⟩) ?_
      clear hK K
      refine wpT_step fun K hK => ?_
      simp only [pickOps, List.map_cons, List.map_nil, List.getD_cons_zero, List.getD_cons_succ]
      go_wp2_with fail
      refine hK _ _ (fun _ => ⟨⟨_, (hd0.alloc hd0.size _).alloc (by simp; have := hd0.size; omega) _⟩, rfl⟩) ?_
      clear hK K
      refine wpT_step fun K hK => ?_
      simp only [pickOps, List.map_cons, List.map_nil, List.getD_cons_zero, List.getD_cons_succ]
      go_wp2_with fail
      refine hK _ _ (fun h => absurd h (by decide)) ?_
      clear hK K
      refine wpT_done ?_
      go_wp2_with fail
      have hA : Blk ((wd.alloc (.cells #[.int .i64 x1, .int .i64 x2, .int .i64 x3, .int .i64 x4] 3)).alloc (.cells #[.int .i64 x5, .int .i64 x6, .int .i64 x7] 3)) wd.heap.size 3 #[.int .i64 x1, .int .i64 x2, .int .i64 x3, .int .i64 x4] := (Blk.new wd _ _).alloc _
      have hB : Blk ((wd.alloc (.cells #[.int .i64 x1, .int .i64 x2, .int .i64 x3, .int .i64 x4] 3)).alloc (.cells #[.int .i64 x5, .int .i64 x6, .int .i64 x7] 3)) (wd.heap.size + 1) 3 #[.int .i64 x5, .int .i64 x6, .int .i64 x7] := by
        have h := Blk.new (wd.alloc (.cells #[.int .i64 x1, .int .i64 x2, .int .i64 x3, .int .i64 x4] 3)) 3 #[.int .i64 x5, .int .i64 x6, .int .i64 x7]
        simpa using h
      exact bodyPost_ret (v := .tuple #[.string (bstr (wordL 2)), .slice (some ⟨wd.heap.size, 0, none⟩) 4 4, .slice (some ⟨wd.heap.size + 1, 0, none⟩) 3 3]) (by simp [results, Tryd.results20, go_sem]; rfl) rfl ⟨_, _, _, _, rfl, nam_row hA rfl rfl, nam_row hB rfl rfl, ((unhide HBD).alloc (unhide HBD).size _).alloc (by simp; have := (unhide HBD).size; omega) _⟩
    · refine wpT_step fun K hK => ?_
      simp only [pickOps, List.map_cons, List.map_nil, List.getD_cons_zero, List.getD_cons_succ]
      go_wp2_with fail
      refine hK _ _ (fun _ => ⟨⟨_, hd0.alloc hd0.size _⟩, rfl⟩) ?_
      clear hK K
      refine wpT_step fun K hK => ?_
      simp only [pickOps, List.map_cons, List.map_nil, List.getD_cons_zero, List.getD_cons_succ]
      go_wp2_with fail
      refine hK _ _ (fun _ => ⟨⟨_, (hd0.alloc hd0.size _).alloc (by simp; have := hd0.size; omega) _⟩, rfl⟩) ?_
      clear hK K
      refine wpT_step fun K hK => ?_
      simp only [pickOps, List.map_cons, List.map_nil, List.getD_cons_zero, List.getD_cons_succ]
      go_wp2_with fail
      refine hK _ _ (fun h => absurd h (by decide)) ?_
      clear hK K
      refine wpT_done ?_
      go_wp2_with fail
      have hA : Blk ((wd.alloc (.cells #[.int .i64 x1, .int .i64 x2, .int .i64 x3, .int .i64 x4] 3)).alloc (.cells #[.int .i64 x5, .int .i64 x6, .int .i64 x7] 3)) wd.heap.size 3 #[.int .i64 x1, .int .i64 x2, .int .i64 x3, .int .i64 x4] := (Blk.new wd _ _).alloc _
      have hB : Blk ((wd.alloc (.cells #[.int .i64 x1, .int .i64 x2, .int .i64 x3, .int .i64 x4] 3)).alloc (.cells #[.int .i64 x5, .int .i64 x6, .int .i64 x7] 3)) (wd.heap.size + 1) 3 #[.int .i64 x5, .int .i64 x6, .int .i64 x7] := by
        have h := Blk.new (wd.alloc (.cells #[.int .i64 x1, .int .i64 x2, .int .i64 x3, .int .i64 x4] 3)) 3 #[.int .i64 x5, .int .i64 x6, .int .i64 x7]
        simpa using h
      exact bodyPost_ret (v := .tuple #[.string (bstr (wordL 2)), .slice (some ⟨wd.heap.size, 0, none⟩) 4 4, .slice (some ⟨wd.heap.size + 1, 0, none⟩) 3 3]) (by simp [results, Tryd.results20, go_sem]; rfl) rfl ⟨_, _, _, _, rfl, nam_row hA rfl rfl, nam_row hB rfl rfl, ((unhide HBD).alloc (unhide HBD).size _).alloc (by simp; have := (unhide HBD).size; omega) _⟩
  · refine wpT_step fun K hK => ?_
    simp only [pickOps, List.map_cons, List.map_nil, List.getD_cons_zero, List.getD_cons_succ]
    go_wp2_with fail
    refine hK _ _ (fun _ => ⟨⟨_, hd0.alloc hd0.size _⟩, rfl⟩) ?_
    clear hK K
    refine wpT_step fun K hK => ?_
    simp only [pickOps, List.map_cons, List.map_nil, List.getD_cons_zero, List.getD_cons_succ]
    go_wp2_with fail
    refine hK _ _ (fun _ => ⟨⟨_, (hd0.alloc hd0.size _).alloc (by simp; have := hd0.size; omega) _⟩, rfl⟩) ?_
    clear hK K
    refine wpT_step fun K hK => ?_
    simp only [pickOps, List.map_cons, List.map_nil, List.getD_cons_zero, List.getD_cons_succ]
    go_wp2_with fail
    refine hK _ _ (fun _ => ⟨⟨_, (hd0.alloc hd0.size _).alloc (by simp; have := hd0.size; omega) _⟩, rfl⟩) ?_
    clear hK K
    refine wpT_step fun K hK => ?_
    simp only [pickOps, List.map_cons, List.map_nil, List.getD_cons_zero, List.getD_cons_succ]
    go_wp2_with fail
    refine hK _ _ (fun h => absurd h (by decide)) ?_
    clear hK K
    refine wpT_done ?_
    go_wp2_with fail
    have hA : Blk ((wd.alloc (.cells #[.int .i64 x5, .int .i64 x6, .int .i64 x7] 3)).alloc (.cells #[.int .i64 x1, .int .i64 x2, .int .i64 x3, .int .i64 x4] 3)) wd.heap.size 3 #[.int .i64 x5, .int .i64 x6, .int .i64 x7] := (Blk.new wd _ _).alloc _
    have hB : Blk ((wd.alloc (.cells #[.int .i64 x5, .int .i64 x6, .int .i64 x7] 3)).alloc (.cells #[.int .i64 x1, .int .i64 x2, .int .i64 x3, .int .i64 x4] 3)) (wd.heap.size + 1) 3 #[.int .i64 x1, .int .i64 x2, .int .i64 x3, .int .i64 x4] := by
      have h := Blk.new (wd.alloc (.cells #[.int .i64 x5, .int .i64 x6, .int .i64 x7] 3)) 3 #[.int .i64 x1, .int .i64 x2, .int .i64 x3, .int .i64 x4]
      simpa using h
    exact bodyPost_ret (v := .tuple #[.string (bstr (wordL 2)), .slice (some ⟨wd.heap.size + 1, 0, none⟩) 4 4, .slice (some ⟨wd.heap.size, 0, none⟩) 3 3]) (by simp [results, Tryd.results20, go_sem]; rfl) rfl ⟨_, _, _, _, rfl, nam_row hB rfl rfl, nam_row hA rfl rfl, ((unhide HBD).alloc (unhide HBD).size _).alloc (by simp; have := (unhide HBD).size; omega) _⟩
set_option maxRecDepth 100000 in
set_option maxHeartbeats 4000000 in
theorem named4 (x1 x2 x3 x4 x5 x6 x7 : Int) (w : World) :
    Calls Tryd.prog 20 #[.agg #[.int .i64 4, .int .i64 x1, .int .i64 x2, .int .i64 x3, .int .i64 x4, .int .i64 x5, .int .i64 x6, .int .i64 x7]] w (NamPost 3 [4, x1, x2, x3, x4, x5, x6, x7] w) := by
  obtain ⟨wx, hwx⟩ : ∃ wx, wx = w.alloc (.cells #[.int .i64 4, .int .i64 x1, .int .i64 x2, .int .i64 x3, .int .i64 x4, .int .i64 x5, .int .i64 x6, .int .i64 x7] 29) := ⟨_, rfl⟩
  have hbx : Below w.heap.size w wx := by rw [hwx]; exact (Below.refl _ _).alloc (Nat.le_refl _) _
  obtain ⟨p, hp⟩ : ∃ p, p = w.heap.size := ⟨_, rfl⟩
  have kp : Blk wx p 29 #[.int .i64 4, .int .i64 x1, .int .i64 x2, .int .i64 x3, .int .i64 x4, .int .i64 x5, .int .i64 x6, .int .i64 x7] := by rw [hwx, hp]; exact Blk.new _ _ _
  have HP := hide hp
  have HWX := hide hwx
  have HBX := hide hbx
  have c0 : wx.cell? ⟨p, 0, none⟩ = some (.int .i64 4) := kp.cell 0
  have d1 := fun n : Ext wx => n.cell (v := .int .i64 x1) (kp.cell 1)
  have d2 := fun n : Ext wx => n.cell (v := .int .i64 x2) (kp.cell 2)
  have d3 := fun n : Ext wx => n.cell (v := .int .i64 x3) (kp.cell 3)
  have d4 := fun n : Ext wx => n.cell (v := .int .i64 x4) (kp.cell 4)
  have d5 := fun n : Ext wx => n.cell (v := .int .i64 x5) (kp.cell 5)
  have d6 := fun n : Ext wx => n.cell (v := .int .i64 x6) (kp.cell 6)
  have d7 := fun n : Ext wx => n.cell (v := .int .i64 x7) (kp.cell 7)
  clear hp hwx hbx kp
  go_enter Tryd.func20, Tryd.ntmps20
  go_upto_region 1 with fail
  rw [← unhide HP, ← unhide HWX]
  go_upto_region 9 with fail
  refine wp_region_calm_tree [0, 2, 4, 7, 9, 11, 13, 16] [1, 3, 5, 8, 10, 12, 14] [6, 15, 17] 18 [] (treeN 6 15) (by kernel_rfl) (by kernel_rfl) (by intro c a d v w h; cases d <;> exact h) ?_
  simp only [pickOps, List.map_cons, List.map_nil, List.getD_cons_zero, List.getD_cons_succ]
  repeat (go_big_quiet_step (fail))
  refine wpQuiet_nil ?_
  repeat (go_big_quiet_step (fail))
  refine wpQuiet_nil ?_
  obtain ⟨wd, hwd⟩ : ∃ wd, wd = wx.drew := ⟨_, rfl⟩
  have hd0 : Below wx.heap.size wx wd := by rw [hwd]; exact (Below.refl _ _).drew
  have HBD := hide ((unhide HBX).trans (hd0.mono (unhide HBX).size))
  rw [← hwd]
  clear hwd d1 d2 d3 d4 d5 d6 d7 c0
  unfold treeN
  refine wpT_fork ?_ ?_
  · refine wpT_step fun K hK => ?_
    simp only [pickOps, List.map_cons, List.map_nil, List.getD_cons_zero, List.getD_cons_succ]
    go_wp2_with fail
    refine hK _ _ (fun _ => ⟨⟨_, hd0.alloc hd0.size _⟩, rfl⟩) ?_
    clear hK K
    refine wpT_fork ?_ ?_
    · refine wpT_step fun K hK => ?_
      simp only [pickOps, List.map_cons, List.map_nil, List.getD_cons_zero, List.getD_cons_succ]
      go_wp2_with fail
      refine hK _ _ (fun _ => ⟨⟨_, (hd0.alloc hd0.size _).alloc (by simp; have := hd0.size; omega) _⟩, rfl⟩) ?_
      clear hK K
      refine wpT_step fun K hK => ?_
      simp only [pickOps, List.map_cons, List.map_nil, List.getD_cons_zero, List.getD_cons_succ]
      go_wp2_with fail
      refine hK _ _ (fun _ => ⟨⟨_, (hd0.alloc hd0.size _).alloc (by simp; have := hd0.size; omega) _⟩, rfl⟩) ?_
      clear hK K
      refine wpT_step fun K hK => ?_
      simp only [pickOps, List.map_cons, List.map_nil, List.getD_cons_zero, List.getD_cons_succ]
      go_wp2_with fail
      refine hK _ _ (fun h => absurd h (by decide)) ?_
      clear hK K
      refine wpT_done ?_
      go_wp2_with fail
      have hA : Blk ((wd.alloc (.cells #[.int .i64 x1, .int .i64 x2, .int .i64 x5] 3)).alloc (.cells #[.int .i64 x3, .int .i64 x4, .int .i64 x6, .int .i64 x7] 3)) wd.heap.size 3 #[.int .i64 x1, .int .i64 x2, .int .i64 x5] := (Blk.new wd _ _).alloc _
      have hB : Blk ((wd.alloc (.cells #[.int .i64 x1, .int .i64 x2, .int .i64 x5] 3)).alloc (.cells #[.int .i64 x3, .int .i64 x4, .int .i64 x6, .int .i64 x7] 3)) (wd.heap.size + 1) 3 #[.int .i64 x3, .int .i64 x4, .int .i64 x6, .int .i64 x7] := by
        have h := Blk.new (wd.alloc (.cells #[.int .i64 x1, .int .i64 x2, .int .i64 x5] 3)) 3 #[.int .i64 x3, .int .i64 x4, .int .i64 x6, .int .i64 x7]
        simpa using h
      exact bodyPost_ret (v := .tuple #[.string (bstr (wordL 3)), .slice (some ⟨wd.heap.size, 0, none⟩) 3 3, .slice (some ⟨wd.heap.size + 1, 0, none⟩) 4 4]) (by simp [results, Tryd.results20, go_sem]; rfl) rfl ⟨_, _, _, _, rfl, nam_row hA rfl rfl, nam_row hB rfl rfl, ((unhide HBD).alloc (unhide HBD).size _).alloc (by simp; have := (unhide HBD).size; omega) _⟩
    · refine wpT_step fun K hK => ?_
      simp only [pickOps, List.map_cons, List.map_nil, List.getD_cons_zero, List.getD_cons_succ]
      go_wp2_with fail
      refine hK _ _ (fun _ => ⟨⟨_, hd0.alloc hd0.size _⟩, rfl⟩) ?_
      clear hK K
      refine wpT_step fun K hK => ?_
      simp only [pickOps, List.map_cons, List.map_nil, List.getD_cons_zero, List.getD_cons_succ]
      go_wp2_with fail
      refine hK _ _ (fun _ => ⟨⟨_, (hd0.alloc hd0.size _).alloc (by simp; have := hd0.size; omega) _⟩, rfl⟩) ?_
      clear hK K
      refine wpT_step fun K hK => ?_
      simp only [pickOps, List.map_cons, List.map_nil, List.getD_cons_zero, List.getD_cons_succ]
      go_wp2_with fail
      refine hK _ _ (fun h => absurd h (by decide)) ?_
      clear hK K
      refine wpT_done ?_
      go_wp2_with fail
      have hA : Blk ((wd.alloc (.cells #[.int .i64 x1, .int .i64 x2, .int .i64 x5] 3)).alloc (.cells #[.int .i64 x3, .int .i64 x4, .int .i64 x6, .int .i64 x7] 3)) wd.heap.size 3 #[.int .i64 x1, .int .i64 x2, .int .i64 x5] := (Blk.new wd _ _).alloc _
      have hB : Blk ((wd.alloc (.cells #[.int .i64 x1, .int .i64 x2, .int .i64 x5] 3)).alloc (.cells #[.int .i64 x3, .int .i64 x4, .int .i64 x6, .int .i64 x7] 3)) (wd.heap.size + 1) 3 #[.int .i64 x3, .int .i64 x4, .int .i64 x6, .int .i64 x7] := by
        have h := Blk.new (wd.alloc (.cells #[.int .i64 x1, .int .i64 x2, .int .i64 x5] 3)) 3 #[.int .i64 x3, .int .i64 x4, .int .i64 x6, .int .i64 x7]
        simpa using h
      exact bodyPost_ret (v := .tuple #[.string (bstr (wordL 3)), .slice (some ⟨wd.heap.size, 0, none⟩) 3 3, .slice (some ⟨wd.heap.size + 1, 0, none⟩) 4 4]) (by simp [results, Tryd.results20, go_sem]; rfl) rfl ⟨_, _, _, _, rfl, nam_row hA rfl rfl, nam_row hB rfl rfl, ((unhide HBD).alloc (unhide HBD).size _).alloc (by simp; have := (unhide HBD).size; omega) _⟩
  · refine wpT_step fun K hK => ?_
    simp only [pickOps, List.map_cons, List.map_nil, List.getD_cons_zero, List.getD_cons_succ]
    go_wp2_with fail
    refine hK _ _ (fun _ => ⟨⟨_, hd0.alloc hd0.size _⟩, rfl⟩) ?_
    clear hK K
    refine wpT_step fun K hK => ?_
    simp only [pickOps, List.map_cons, List.map_nil, List.getD_cons_zero, List.getD_cons_succ]
    go_wp2_with fail
    refine hK _ _ (fun _ => ⟨⟨_, (hd0.alloc hd0.size _).alloc (by simp; have := hd0.size; omega) _⟩, rfl⟩) ?_
    clear hK K
    refine wpT_step fun K hK => ?_
    simp only [pickOps, List.map_cons, List.map_nil, List.getD_cons_zero, List.getD_cons_succ]
    go_wp2_with fail
    refine hK _ _ (fun _ => ⟨⟨_, (hd0.alloc hd0.size _).alloc (by simp; have := hd0.size; omega) _⟩, rfl⟩) ?_
    clear hK K
    refine wpT_step fun K hK => ?_
    simp only [pickOps, List.map_cons, List.map_nil, List.getD_cons_zero, List.getD_cons_succ]
    go_wp2_with fail
    refine hK _ _ (fun h => absurd h (by decide)) ?_
    clear hK K
    refine wpT_done ?_
    go_wp2_with fail
    have hA : Blk ((wd.alloc (.cells #[.int .i64 x3, .int .i64 x4, .int .i64 x6, .int .i64 x7] 3)).alloc (.cells #[.int .i64 x1, .int .i64 x2, .int .i64 x5] 3)) wd.heap.size 3 #[.int .i64 x3, .int .i64 x4, .int .i64 x6, .int .i64 x7] := (Blk.new wd _ _).alloc _
    have hB : Blk ((wd.alloc (.cells #[.int .i64 x3, .int .i64 x4, .int .i64 x6, .int .i64 x7] 3)).alloc (.cells #[.int .i64 x1, .int .i64 x2, .int .i64 x5] 3)) (wd.heap.size + 1) 3 #[.int .i64 x1, .int .i64 x2, .int .i64 x5] := by
      have h := Blk.new (wd.alloc (.cells #[.int .i64 x3, .int .i64 x4, .int .i64 x6, .int .i64 x7] 3)) 3 #[.int .i64 x1, .int .i64 x2, .int .i64 x5]
      simpa using h
    exact bodyPost_ret (v := .tuple #[.string (bstr (wordL 3)), .slice (some ⟨wd.heap.size + 1, 0, none⟩) 3 3, .slice (some ⟨wd.heap.size, 0, none⟩) 4 4]) (by simp [results, Tryd.results20, go_sem]; rfl) rfl ⟨_, _, _, _, rfl, nam_row hB rfl rfl, nam_row hA rfl rfl, ((unhide HBD).alloc (unhide HBD).size _).alloc (by simp; have := (unhide HBD).size; omega) _⟩
set_option maxRecDepth 100000 in
set_option maxHeartbeats 4000000 in
theorem named5 (x1 x2 x3 x4 x5 x6 x7 : Int) (w : World) :
    Calls Tryd.prog 20 #[.agg #[.int .i64 5, .int .i64 x1, .int .i64 x2, .int .i64 x3, .int .i64 x4, .int .i64 x5, .int .i64 x6, .int .i64 x7]] w (NamPost 4 [5, x1, x2, x3, x4, x5, x6, x7] w) := by
  obtain ⟨wx, hwx⟩ : ∃ wx, wx = w.alloc (.cells #[.int .i64 5, .int .i64 x1, .int .i64 x2, .int .i64 x3, .int .i64 x4, .int .i64 x5, .int .i64 x6, .int .i64 x7] 29) := ⟨_, rfl⟩
  have hbx : Below w.heap.size w wx := by rw [hwx]; exact (Below.refl _ _).alloc (Nat.le_refl _) _
  obtain ⟨p, hp⟩ : ∃ p, p = w.heap.size := ⟨_, rfl⟩
  have kp : Blk wx p 29 #[.int .i64 5, .int .i64 x1, .int .i64 x2, .int .i64 x3, .int .i64 x4, .int .i64 x5, .int .i64 x6, .int .i64 x7] := by rw [hwx, hp]; exact Blk.new _ _ _
  have HP := hide hp
  have HWX := hide hwx
  have HBX := hide hbx
  have c0 : wx.cell? ⟨p, 0, none⟩ = some (.int .i64 5) := kp.cell 0
  have d1 := fun n : Ext wx => n.cell (v := .int .i64 x1) (kp.cell 1)
  have d2 := fun n : Ext wx => n.cell (v := .int .i64 x2) (kp.cell 2)
  have d3 := fun n : Ext wx => n.cell (v := .int .i64 x3) (kp.cell 3)
  have d4 := fun n : Ext wx => n.cell (v := .int .i64 x4) (kp.cell 4)
  have d5 := fun n : Ext wx => n.cell (v := .int .i64 x5) (kp.cell 5)
  have d6 := fun n : Ext wx => n.cell (v := .int .i64 x6) (kp.cell 6)
  have d7 := fun n : Ext wx => n.cell (v := .int .i64 x7) (kp.cell 7)
  clear hp hwx hbx kp
  go_enter Tryd.func20, Tryd.ntmps20
  go_upto_region 1 with fail
  rw [← unhide HP, ← unhide HWX]
  go_upto_region 11 with fail
  refine wp_region_calm_tree [0, 2, 4, 7, 9, 11, 13, 16] [1, 3, 5, 8, 10, 12, 14] [6, 15, 17] 18 [] (treeN 6 15) (by kernel_rfl) (by kernel_rfl) (by intro c a d v w h; cases d <;> exact h) ?_
  simp only [pickOps, List.map_cons, List.map_nil, List.getD_cons_zero, List.getD_cons_succ]
  repeat (go_big_quiet_step (fail))
  refine wpQuiet_nil ?_
  repeat (go_big_quiet_step (fail))
  refine wpQuiet_nil ?_
  obtain ⟨wd, hwd⟩ : ∃ wd, wd = wx.drew := ⟨_, rfl⟩
  have hd0 : Below wx.heap.size wx wd := by rw [hwd]; exact (Below.refl _ _).drew
  have HBD := hide ((unhide HBX).trans (hd0.mono (unhide HBX).size))
  rw [← hwd]
  clear hwd d1 d2 d3 d4 d5 d6 d7 c0
  unfold treeN
  refine wpT_fork ?_ ?_
  · refine wpT_step fun K hK => ?_
    simp only [pickOps, List.map_cons, List.map_nil, List.getD_cons_zero, List.getD_cons_succ]
    go_wp2_with fail
    refine hK _ _ (fun _ => ⟨⟨_, hd0.alloc hd0.size _⟩, rfl⟩) ?_
    clear hK K
    refine wpT_fork ?_ ?_
    · refine wpT_step fun K hK => ?_
      simp only [pickOps, List.map_cons, List.map_nil, List.getD_cons_zero, List.getD_cons_succ]
      go_wp2_with fail
      refine hK _ _ (fun _ => ⟨⟨_, (hd0.alloc hd0.size _).alloc (by simp; have := hd0.size; omega) _⟩, rfl⟩) ?_
      clear hK K
      refine wpT_step fun K hK => ?_
      simp only [pickOps, List.map_cons, List.map_nil, List.getD_cons_zero, List.getD_cons_succ]
      go_wp2_with fail
      refine hK _ _ (fun _ => ⟨⟨_, (hd0.alloc hd0.size _).alloc (by simp; have := hd0.size; omega) _⟩, rfl⟩) ?_
      clear hK K
      refine wpT_step fun K hK => ?_
      simp only [pickOps, List.map_cons, List.map_nil, List.getD_cons_zero, List.getD_cons_succ]
      go_wp2_with fail
      refine hK _ _ (fun h => absurd h (by decide)) ?_
      clear hK K
      refine wpT_done ?_
      go_wp2_with fail
      have hA : Blk ((wd.alloc (.cells #[.int .i64 x1, .int .i64 x2, .int .i64 x5] 3)).alloc (.cells #[.int .i64 x3, .int .i64 x4, .int .i64 x6, .int .i64 x7] 3)) wd.heap.size 3 #[.int .i64 x1, .int .i64 x2, .int .i64 x5] := (Blk.new wd _ _).alloc _
      have hB : Blk ((wd.alloc (.cells #[.int .i64 x1, .int .i64 x2, .int .i64 x5] 3)).alloc (.cells #[.int .i64 x3, .int .i64 x4, .int .i64 x6, .int .i64 x7] 3)) (wd.heap.size + 1) 3 #[.int .i64 x3, .int .i64 x4, .int .i64 x6, .int .i64 x7] := by
        have h := Blk.new (wd.alloc (.cells #[.int .i64 x1, .int .i64 x2, .int .i64 x5] 3)) 3 #[.int .i64 x3, .int .i64 x4, .int .i64 x6, .int .i64 x7]
        simpa using h
      exact bodyPost_ret (v := .tuple #[.string (bstr (wordL 4)), .slice (some ⟨wd.heap.size, 0, none⟩) 3 3, .slice (some ⟨wd.heap.size + 1, 0, none⟩) 4 4]) (by simp [results, Tryd.results20, go_sem]; rfl) rfl ⟨_, _, _, _, rfl, nam_row hA rfl rfl, nam_row hB rfl rfl, ((unhide HBD).alloc (unhide HBD).size _).alloc (by simp; have := (unhide HBD).size; omega) _⟩
    · refine wpT_step fun K hK => ?_
      simp only [pickOps, List.map_cons, List.map_nil, List.getD_cons_zero, List.getD_cons_succ]
      go_wp2_with fail
      refine hK _ _ (fun _ => ⟨⟨_, hd0.alloc hd0.size _⟩, rfl⟩) ?_
      clear hK K
      refine wpT_step fun K hK => ?_
      simp only [pickOps, List.map_cons, List.map_nil, List.getD_cons_zero, List.getD_cons_succ]
      go_wp2_with fail
      refine hK _ _ (fun _ => ⟨⟨_, (hd0.alloc hd0.size _).alloc (by simp; have := hd0.size; omega) _⟩, rfl⟩) ?_
      clear hK K
      refine wpT_step fun K hK => ?_
      simp only [pickOps, List.map_cons, List.map_nil, List.getD_cons_zero, List.getD_cons_succ]
      go_wp2_with fail
      refine hK _ _ (fun h => absurd h (by decide)) ?_
      clear hK K
      refine wpT_done ?_
      go_wp2_with fail
      have hA : Blk ((wd.alloc (.cells #[.int .i64 x1, .int .i64 x2, .int .i64 x5] 3)).alloc (.cells #[.int .i64 x3, .int .i64 x4, .int .i64 x6, .int .i64 x7] 3)) wd.heap.size 3 #[.int .i64 x1, .int .i64 x2, .int .i64 x5] := (Blk.new wd _ _).alloc _
      have hB : Blk ((wd.alloc (.cells #[.int .i64 x1, .int .i64 x2, .int .i64 x5] 3)).alloc (.cells #[.int .i64 x3, .int .i64 x4, .int .i64 x6, .int .i64 x7] 3)) (wd.heap.size + 1) 3 #[.int .i64 x3, .int .i64 x4, .int .i64 x6, .int .i64 x7] := by
        have h := Blk.new (wd.alloc (.cells #[.int .i64 x1, .int .i64 x2, .int .i64 x5] 3)) 3 #[.int .i64 x3, .int .i64 x4, .int .i64 x6, .int .i64 x7]
        simpa using h
      exact bodyPost_ret (v := .tuple #[.string (bstr (wordL 4)), .slice (some ⟨wd.heap.size, 0, none⟩) 3 3, .slice (some ⟨wd.heap.size + 1, 0, none⟩) 4 4]) (by simp [results, Tryd.results20, go_sem]; rfl) rfl ⟨_, _, _, _, rfl, nam_row hA rfl rfl, nam_row hB rfl rfl, ((unhide HBD).alloc (unhide HBD).size _).alloc (by simp; have := (unhide HBD).size; omega) _⟩
  · refine wpT_step fun K hK => ?_
    simp only [pickOps, List.map_cons, List.map_nil, List.getD_cons_zero, List.getD_cons_succ]
    go_wp2_with fail
    refine hK _ _ (fun _ => ⟨⟨_, hd0.alloc hd0.size _⟩, rfl⟩) ?_
    clear hK K
    refine wpT_step fun K hK => ?_
    simp only [pickOps, List.map_cons, List.map_nil, List.getD_cons_zero, List.getD_cons_succ]
    go_wp2_with fail
    refine hK _ _ (fun _ => ⟨⟨_, (hd0.alloc hd0.size _).alloc (by simp; have := hd0.size; omega) _⟩, rfl⟩) ?_
    clear hK K
    refine wpT_step fun K hK => ?_
    simp only [pickOps, List.map_cons, List.map_nil, List.getD_cons_zero, List.getD_cons_succ]
    go_wp2_with fail
    refine hK _ _ (fun _ => ⟨⟨_, (hd0.alloc hd0.size _).alloc (by simp; have := hd0.size; omega) _⟩, rfl⟩) ?_
    clear hK K
    refine wpT_step fun K hK => ?_
    simp only [pickOps, List.map_cons, List.map_nil, List.getD_cons_zero, List.getD_cons_succ]
    go_wp2_with fail
    refine hK _ _ (fun h => absurd h (by decide)) ?_
    clear hK K
    refine wpT_done ?_
    go_wp2_with fail
    have hA : Blk ((wd.alloc (.cells #[.int .i64 x3, .int .i64 x4, .int .i64 x6, .int .i64 x7] 3)).alloc (.cells #[.int .i64 x1, .int .i64 x2, .int .i64 x5] 3)) wd.heap.size 3 #[.int .i64 x3, .int .i64 x4, .int .i64 x6, .int .i64 x7] := (Blk.new wd _ _).alloc _
    have hB : Blk ((wd.alloc (.cells #[.int .i64 x3, .int .i64 x4, .int .i64 x6, .int .i64 x7] 3)).alloc (.cells #[.int .i64 x1, .int .i64 x2, .int .i64 x5] 3)) (wd.heap.size + 1) 3 #[.int .i64 x1, .int .i64 x2, .int .i64 x5] := by
      have h := Blk.new (wd.alloc (.cells #[.int .i64 x3, .int .i64 x4, .int .i64 x6, .int .i64 x7] 3)) 3 #[.int .i64 x1, .int .i64 x2, .int .i64 x5]
      simpa using h
    exact bodyPost_ret (v := .tuple #[.string (bstr (wordL 4)), .slice (some ⟨wd.heap.size + 1, 0, none⟩) 3 3, .slice (some ⟨wd.heap.size, 0, none⟩) 4 4]) (by simp [results, Tryd.results20, go_sem]; rfl) rfl ⟨_, _, _, _, rfl, nam_row hB rfl rfl, nam_row hA rfl rfl, ((unhide HBD).alloc (unhide HBD).size _).alloc (by simp; have := (unhide HBD).size; omega) _⟩
set_option maxRecDepth 100000 in
set_option maxHeartbeats 4000000 in
theorem named6 (x1 x2 x3 x4 x5 x6 x7 : Int) (w : World) :
    Calls Tryd.prog 20 #[.agg #[.int .i64 6, .int .i64 x1, .int .i64 x2, .int .i64 x3, .int .i64 x4, .int .i64 x5, .int .i64 x6, .int .i64 x7]] w (NamPost 5 [6, x1, x2, x3, x4, x5, x6, x7] w) := by
  obtain ⟨wx, hwx⟩ : ∃ wx, wx = w.alloc (.cells #[.int .i64 6, .int .i64 x1, .int .i64 x2, .int .i64 x3, .int .i64 x4, .int .i64 x5, .int .i64 x6, .int .i64 x7] 29) := ⟨_, rfl⟩
  have hbx : Below w.heap.size w wx := by rw [hwx]; exact (Below.refl _ _).alloc (Nat.le_refl _) _
  obtain ⟨p, hp⟩ : ∃ p, p = w.heap.size := ⟨_, rfl⟩
  have kp : Blk wx p 29 #[.int .i64 6, .int .i64 x1, .int .i64 x2, .int .i64 x3, .int .i64 x4, .int .i64 x5, .int .i64 x6, .int .i64 x7] := by rw [hwx, hp]; exact Blk.new _ _ _
  have HP := hide hp
  have HWX := hide hwx
  have HBX := hide hbx
  have c0 : wx.cell? ⟨p, 0, none⟩ = some (.int .i64 6) := kp.cell 0
  have d1 := fun n : Ext wx => n.cell (v := .int .i64 x1) (kp.cell 1)
  have d2 := fun n : Ext wx => n.cell (v := .int .i64 x2) (kp.cell 2)
  have d3 := fun n : Ext wx => n.cell (v := .int .i64 x3) (kp.cell 3)
  have d4 := fun n : Ext wx => n.cell (v := .int .i64 x4) (kp.cell 4)
  have d5 := fun n : Ext wx => n.cell (v := .int .i64 x5) (kp.cell 5)
  have d6 := fun n : Ext wx => n.cell (v := .int .i64 x6) (kp.cell 6)
  have d7 := fun n : Ext wx => n.cell (v := .int .i64 x7) (kp.cell 7)
  clear hp hwx hbx kp
  go_enter Tryd.func20, Tryd.ntmps20
  go_upto_region 1 with fail
  rw [← unhide HP, ← unhide HWX]
  go_upto_region 13 with fail
  refine wp_region_calm_tree [0, 2, 4, 7, 9, 11, 13, 16] [1, 3, 5, 8, 10, 12, 14] [6, 15, 17] 18 [] (treeN 6 15) (by kernel_rfl) (by kernel_rfl) (by intro c a d v w h; cases d <;> exact h) ?_
  simp only [pickOps, List.map_cons, List.map_nil, List.getD_cons_zero, List.getD_cons_succ]
  repeat (go_big_quiet_step (fail))
  refine wpQuiet_nil ?_
  repeat (go_big_quiet_step (fail))
  refine wpQuiet_nil ?_
  obtain ⟨wd, hwd⟩ : ∃ wd, wd = wx.drew := ⟨_, rfl⟩
  have hd0 : Below wx.heap.size wx wd := by rw [hwd]; exact (Below.refl _ _).drew
  have HBD := hide ((unhide HBX).trans (hd0.mono (unhide HBX).size))
  rw [← hwd]
  clear hwd d1 d2 d3 d4 d5 d6 d7 c0
  unfold treeN
  refine wpT_fork ?_ ?_
  · refine wpT_step fun K hK => ?_
    simp only [pickOps, List.map_cons, List.map_nil, List.getD_cons_zero, List.getD_cons_succ]
    go_wp2_with fail
    refine hK _ _ (fun _ => ⟨⟨_, hd0.alloc hd0.size _⟩, rfl⟩) ?_
    clear hK K
    refine wpT_fork ?_ ?_
    · refine wpT_step fun K hK => ?_
      simp only [pickOps, List.map_cons, List.map_nil, List.getD_cons_zero, List.getD_cons_succ]
      go_wp2_with fail
      refine hK _ _ (fun _ => ⟨⟨_, (hd0.alloc hd0.size _).alloc (by simp; have := hd0.size; omega) _⟩, rfl⟩) ?_
      clear hK K
      refine wpT_step fun K hK => ?_
      simp only [pickOps, List.map_cons, List.map_nil, List.getD_cons_zero, List.getD_cons_succ]
      go_wp2_with fail
      refine hK _ _ (fun _ => ⟨⟨_, (hd0.alloc hd0.size _).alloc (by simp; have := hd0.size; omega) _⟩, rfl⟩) ?_
      clear hK K
      refine wpT_step fun K hK => ?_
      simp only [pickOps, List.map_cons, List.map_nil, List.getD_cons_zero, List.getD_cons_succ]
      go_wp2_with fail
      refine hK _ _ (fun h => absurd h (by decide)) ?_
      clear hK K
      refine wpT_done ?_
      go_wp2_with fail
      have hA : Blk ((wd.alloc (.cells #[.int .i64 x1, .int .i64 x2, .int .i64 x3] 3)).alloc (.cells #[.int .i64 x4, .int .i64 x5, .int .i64 x6, .int .i64 x7] 3)) wd.heap.size 3 #[.int .i64 x1, .int .i64 x2, .int .i64 x3] := (Blk.new wd _ _).alloc _
      have hB : Blk ((wd.alloc (.cells #[.int .i64 x1, .int .i64 x2, .int .i64 x3] 3)).alloc (.cells #[.int .i64 x4, .int .i64 x5, .int .i64 x6, .int .i64 x7] 3)) (wd.heap.size + 1) 3 #[.int .i64 x4, .int .i64 x5, .int .i64 x6, .int .i64 x7] := by
        have h := Blk.new (wd.alloc (.cells #[.int .i64 x1, .int .i64 x2, .int .i64 x3] 3)) 3 #[.int .i64 x4, .int .i64 x5, .int .i64 x6, .int .i64 x7]
        simpa using h
      exact bodyPost_ret (v := .tuple #[.string (bstr (wordL 5)), .slice (some ⟨wd.heap.size, 0, none⟩) 3 3, .slice (some ⟨wd.heap.size + 1, 0, none⟩) 4 4]) (by simp [results, Tryd.results20, go_sem]; rfl) rfl ⟨_, _, _, _, rfl, nam_row hA rfl rfl, nam_row hB rfl rfl, ((unhide HBD).alloc (unhide HBD).size _).alloc (by simp; have := (unhide HBD).size; omega) _⟩
    · refine wpT_step fun K hK => ?_
      simp only [pickOps, List.map_cons, List.map_nil, List.getD_cons_zero, List.getD_cons_succ]
      go_wp2_with fail
      refine hK _ _ (fun _ => ⟨⟨_, hd0.alloc hd0.size _⟩, rfl⟩) ?_
      clear hK K
      refine wpT_step fun K hK => ?_
      simp only [pickOps, List.map_cons, List.map_nil, List.getD_cons_zero, List.getD_cons_succ]
      go_wp2_with fail
      refine hK _ _ (fun _ => ⟨⟨_, (hd0.alloc hd0.size _).alloc (by simp; have := hd0.size; omega) _⟩, rfl⟩) ?_
      clear hK K
      refine wpT_step fun K hK => ?_
      simp only [pickOps, List.map_cons, List.map_nil, List.getD_cons_zero, List.getD_cons_succ]
      go_wp2_with fail
      refine hK _ _ (fun h => absurd h (by decide)) ?_
      clear hK K
      refine wpT_done ?_
      go_wp2_with fail
      have hA : Blk ((wd.alloc (.cells #[.int .i64 x1, .int .i64 x2, .int .i64 x3] 3)).alloc (.cells #[.int .i64 x4, .int .i64 x5, .int .i64 x6, .int .i64 x7] 3)) wd.heap.size 3 #[.int .i64 x1, .int .i64 x2, .int .i64 x3] := (Blk.new wd _ _).alloc _
      have hB : Blk ((wd.alloc (.cells #[.int .i64 x1, .int .i64 x2, .int .i64 x3] 3)).alloc (.cells #[.int .i64 x4, .int .i64 x5, .int .i64 x6, .int .i64 x7] 3)) (wd.heap.size + 1) 3 #[.int .i64 x4, .int .i64 x5, .int .i64 x6, .int .i64 x7] := by
        have h := Blk.new (wd.alloc (.cells #[.int .i64 x1, .int .i64 x2, .int .i64 x3] 3)) 3 #[.int .i64 x4, .int .i64 x5, .int .i64 x6, .int .i64 x7]
        simpa using h
      exact bodyPost_ret (v := .tuple #[.string (bstr (wordL 5)), .slice (some ⟨wd.heap.size, 0, none⟩) 3 3, .slice (some ⟨wd.heap.size + 1, 0, none⟩) 4 4]) (by simp [results, Tryd.results20, go_sem]; rfl) rfl ⟨_, _, _, _, rfl, nam_row hA rfl rfl, nam_row hB rfl rfl, ((unhide HBD).alloc (unhide HBD).size _).alloc (by simp; have := (unhide HBD).size; omega) _⟩
  · refine wpT_step fun K hK => ?_
    simp only [pickOps, List.map_cons, List.map_nil, List.getD_cons_zero, List.getD_cons_succ]
    go_wp2_with fail
    refine hK _ _ (fun _ => ⟨⟨_, hd0.alloc hd0.size _⟩, rfl⟩) ?_
    clear hK K
    refine wpT_step fun K hK => ?_
    simp only [pickOps, List.map_cons, List.map_nil, List.getD_cons_zero, List.getD_cons_succ]
    go_wp2_with fail
    refine hK _ _ (fun _ => ⟨⟨_, (hd0.alloc hd0.size _).alloc (by simp; have := hd0.size; omega) _⟩, rfl⟩) ?_
    clear hK K
    refine wpT_step fun K hK => ?_
    simp only [pickOps, List.map_cons, List.map_nil, List.getD_cons_zero, List.getD_cons_succ]
    go_wp2_with fail
    refine hK _ _ (fun _ => ⟨⟨_, (hd0.alloc hd0.size _).alloc (by simp; have := hd0.size; omega) _⟩, rfl⟩) ?_
    clear hK K
    refine wpT_step fun K hK => ?_
    simp only [pickOps, List.map_cons, List.map_nil, List.getD_cons_zero, List.getD_cons_succ]
    go_wp2_with fail
    refine hK _ _ (fun h => absurd h (by decide)) ?_
    clear hK K
    refine wpT_done ?_
    go_wp2_with fail
    have hA : Blk ((wd.alloc (.cells #[.int .i64 x4, .int .i64 x5, .int .i64 x6, .int .i64 x7] 3)).alloc (.cells #[.int .i64 x1, .int .i64 x2, .int .i64 x3] 3)) wd.heap.size 3 #[.int .i64 x4, .int .i64 x5, .int .i64 x6, .int .i64 x7] := (Blk.new wd _ _).alloc _
    have hB : Blk ((wd.alloc (.cells #[.int .i64 x4, .int .i64 x5, .int .i64 x6, .int .i64 x7] 3)).alloc (.cells #[.int .i64 x1, .int .i64 x2, .int .i64 x3] 3)) (wd.heap.size + 1) 3 #[.int .i64 x1, .int .i64 x2, .int .i64 x3] := by
      have h := Blk.new (wd.alloc (.cells #[.int .i64 x4, .int .i64 x5, .int .i64 x6, .int .i64 x7] 3)) 3 #[.int .i64 x1, .int .i64 x2, .int .i64 x3]
      simpa using h
    exact bodyPost_ret (v := .tuple #[.string (bstr (wordL 5)), .slice (some ⟨wd.heap.size + 1, 0, none⟩) 3 3, .slice (some ⟨wd.heap.size, 0, none⟩) 4 4]) (by simp [results, Tryd.results20, go_sem]; rfl) rfl ⟨_, _, _, _, rfl, nam_row hB rfl rfl, nam_row hA rfl rfl, ((unhide HBD).alloc (unhide HBD).size _).alloc (by simp; have := (unhide HBD).size; omega) _⟩
set_option maxRecDepth 100000 in
set_option maxHeartbeats 4000000 in
theorem named7 (x1 x2 x3 x4 x5 x6 x7 : Int) (w : World) :
    Calls Tryd.prog 20 #[.agg #[.int .i64 7, .int .i64 x1, .int .i64 x2, .int .i64 x3, .int .i64 x4, .int .i64 x5, .int .i64 x6, .int .i64 x7]] w (NamPost 6 [7, x1, x2, x3, x4, x5, x6, x7] w) := by
  obtain ⟨wx, hwx⟩ : ∃ wx, wx = w.alloc (.cells #[.int .i64 7, .int .i64 x1, .int .i64 x2, .int .i64 x3, .int .i64 x4, .int .i64 x5, .int .i64 x6, .int .i64 x7] 29) := ⟨_, rfl⟩
  have hbx : Below w.heap.size w wx := by rw [hwx]; exact (Below.refl _ _).alloc (Nat.le_refl _) _
  obtain ⟨p, hp⟩ : ∃ p, p = w.heap.size := ⟨_, rfl⟩
  have kp : Blk wx p 29 #[.int .i64 7, .int .i64 x1, .int .i64 x2, .int .i64 x3, .int .i64 x4, .int .i64 x5, .int .i64 x6, .int .i64 x7] := by rw [hwx, hp]; exact Blk.new _ _ _
  have HP := hide hp
  have HWX := hide hwx
  have HBX := hide hbx
  have c0 : wx.cell? ⟨p, 0, none⟩ = some (.int .i64 7) := kp.cell 0
  have d1 := fun n : Ext wx => n.cell (v := .int .i64 x1) (kp.cell 1)
  have d2 := fun n : Ext wx => n.cell (v := .int .i64 x2) (kp.cell 2)
  have d3 := fun n : Ext wx => n.cell (v := .int .i64 x3) (kp.cell 3)
  have d4 := fun n : Ext wx => n.cell (v := .int .i64 x4) (kp.cell 4)
  have d5 := fun n : Ext wx => n.cell (v := .int .i64 x5) (kp.cell 5)
  have d6 := fun n : Ext wx => n.cell (v := .int .i64 x6) (kp.cell 6)
  have d7 := fun n : Ext wx => n.cell (v := .int .i64 x7) (kp.cell 7)
  clear hp hwx hbx kp
  go_enter Tryd.func20, Tryd.ntmps20
  go_upto_region 1 with fail
  rw [← unhide HP, ← unhide HWX]
  go_upto_region 15 with fail
  refine wp_region_calm_tree [0, 2, 4, 6, 9, 11, 13, 16] [1, 3, 5, 7, 10, 12, 14] [8, 15, 17] 18 [] (treeN 8 15) (by kernel_rfl) (by kernel_rfl) (by intro c a d v w h; cases d <;> exact h) ?_
  simp only [pickOps, List.map_cons, List.map_nil, List.getD_cons_zero, List.getD_cons_succ]
  repeat (go_big_quiet_step (fail))
  refine wpQuiet_nil ?_
  repeat (go_big_quiet_step (fail))
  refine wpQuiet_nil ?_
  obtain ⟨wd, hwd⟩ : ∃ wd, wd = wx.drew := ⟨_, rfl⟩
  have hd0 : Below wx.heap.size wx wd := by rw [hwd]; exact (Below.refl _ _).drew
  have HBD := hide ((unhide HBX).trans (hd0.mono (unhide HBX).size))
  rw [← hwd]
  clear hwd d1 d2 d3 d4 d5 d6 d7 c0
  unfold treeN
  refine wpT_fork ?_ ?_
  · refine wpT_step fun K hK => ?_
    simp only [pickOps, List.map_cons, List.map_nil, List.getD_cons_zero, List.getD_cons_succ]
    go_wp2_with fail
    refine hK _ _ (fun _ => ⟨⟨_, hd0.alloc hd0.size _⟩, rfl⟩) ?_
    clear hK K
    refine wpT_fork ?_ ?_
    · refine wpT_step fun K hK => ?_
      simp only [pickOps, List.map_cons, List.map_nil, List.getD_cons_zero, List.getD_cons_succ]
      go_wp2_with fail
      refine hK _ _ (fun _ => ⟨⟨_, (hd0.alloc hd0.size _).alloc (by simp; have := hd0.size; omega) _⟩, rfl⟩) ?_
      clear hK K
      refine wpT_step fun K hK => ?_
      simp only [pickOps, List.map_cons, List.map_nil, List.getD_cons_zero, List.getD_cons_succ]
      go_wp2_with fail
      refine hK _ _ (fun _ => ⟨⟨_, (hd0.alloc hd0.size _).alloc (by simp; have := hd0.size; omega) _⟩, rfl⟩) ?_
      clear hK K
      refine wpT_step fun K hK => ?_
      simp only [pickOps, List.map_cons, List.map_nil, List.getD_cons_zero, List.getD_cons_succ]
      go_wp2_with fail
      refine hK _ _ (fun h => absurd h (by decide)) ?_
      clear hK K
      refine wpT_done ?_
      go_wp2_with fail
      have hA : Blk ((wd.alloc (.cells #[.int .i64 x1, .int .i64 x6, .int .i64 x7, .int .i64 x3] 3)).alloc (.cells #[.int .i64 x2, .int .i64 x4, .int .i64 x5] 3)) wd.heap.size 3 #[.int .i64 x1, .int .i64 x6, .int .i64 x7, .int .i64 x3] := (Blk.new wd _ _).alloc _
      have hB : Blk ((wd.alloc (.cells #[.int .i64 x1, .int .i64 x6, .int .i64 x7, .int .i64 x3] 3)).alloc (.cells #[.int .i64 x2, .int .i64 x4, .int .i64 x5] 3)) (wd.heap.size + 1) 3 #[.int .i64 x2, .int .i64 x4, .int .i64 x5] := by
        have h := Blk.new (wd.alloc (.cells #[.int .i64 x1, .int .i64 x6, .int .i64 x7, .int .i64 x3] 3)) 3 #[.int .i64 x2, .int .i64 x4, .int .i64 x5]
        simpa using h
      exact bodyPost_ret (v := .tuple #[.string (bstr (wordL 6)), .slice (some ⟨wd.heap.size, 0, none⟩) 4 4, .slice (some ⟨wd.heap.size + 1, 0, none⟩) 3 3]) (by simp [results, Tryd.results20, go_sem]; rfl) rfl ⟨_, _, _, _, rfl, nam_row hA rfl rfl, nam_row hB rfl rfl, ((unhide HBD).alloc (unhide HBD).size _).alloc (by simp; have := (unhide HBD).size; omega) _⟩
    · refine wpT_step fun K hK => ?_
      simp only [pickOps, List.map_cons, List.map_nil, List.getD_cons_zero, List.getD_cons_succ]
      go_wp2_with fail
      refine hK _ _ (fun _ => ⟨⟨_, hd0.alloc hd0.size _⟩, rfl⟩) ?_
      clear hK K
      refine wpT_step fun K hK => ?_
      simp only [pickOps, List.map_cons, List.map_nil, List.getD_cons_zero, List.getD_cons_succ]
      go_wp2_with fail
      refine hK _ _ (fun _ => ⟨⟨_, (hd0.alloc hd0.size _).alloc (by simp; have := hd0.size; omega) _⟩, rfl⟩) ?_
      clear hK K
      refine wpT_step fun K hK => ?_
      simp only [pickOps, List.map_cons, List.map_nil, List.getD_cons_zero, List.getD_cons_succ]
      go_wp2_with fail
      refine hK _ _ (fun h => absurd h (by decide)) ?_
      clear hK K
      refine wpT_done ?_
      go_wp2_with fail
      have hA : Blk ((wd.alloc (.cells #[.int .i64 x1, .int .i64 x6, .int .i64 x7, .int .i64 x3] 3)).alloc (.cells #[.int .i64 x2, .int .i64 x4, .int .i64 x5] 3)) wd.heap.size 3 #[.int .i64 x1, .int .i64 x6, .int .i64 x7, .int .i64 x3] := (Blk.new wd _ _).alloc _
      have hB : Blk ((wd.alloc (.cells #[.int .i64 x1, .int .i64 x6, .int .i64 x7, .int .i64 x3] 3)).alloc (.cells #[.int .i64 x2, .int .i64 x4, .int .i64 x5] 3)) (wd.heap.size + 1) 3 #[.int .i64 x2, .int .i64 x4, .int .i64 x5] := by
        have h := Blk.new (wd.alloc (.cells #[.int .i64 x1, .int .i64 x6, .int .i64 x7, .int .i64 x3] 3)) 3 #[.int .i64 x2, .int .i64 x4, .int .i64 x5]
        simpa using h
      exact bodyPost_ret (v := .tuple #[.string (bstr (wordL 6)), .slice (some ⟨wd.heap.size, 0, none⟩) 4 4, .slice (some ⟨wd.heap.size + 1, 0, none⟩) 3 3]) (by simp [results, Tryd.results20, go_sem]; rfl) rfl ⟨_, _, _, _, rfl, nam_row hA rfl rfl, nam_row hB rfl rfl, ((unhide HBD).alloc (unhide HBD).size _).alloc (by simp; have := (unhide HBD).size; omega) _⟩
  · refine wpT_step fun K hK => ?_
    simp only [pickOps, List.map_cons, List.map_nil, List.getD_cons_zero, List.getD_cons_succ]
    go_wp2_with fail
    refine hK _ _ (fun _ => ⟨⟨_, hd0.alloc hd0.size _⟩, rfl⟩) ?_
    clear hK K
    refine wpT_step fun K hK => ?_
    simp only [pickOps, List.map_cons, List.map_nil, List.getD_cons_zero, List.getD_cons_succ]
    go_wp2_with fail
    refine hK _ _ (fun _ => ⟨⟨_, (hd0.alloc hd0.size _).alloc (by simp; have := hd0.size; omega) _⟩, rfl⟩) ?_
    clear hK K
    refine wpT_step fun K hK => ?_
    simp only [pickOps, List.map_cons, List.map_nil, List.getD_cons_zero, List.getD_cons_succ]
    go_wp2_with fail
    refine hK _ _ (fun _ => ⟨⟨_, (hd0.alloc hd0.size _).alloc (by simp; have := hd0.size; omega) _⟩, rfl⟩) ?_
    clear hK K
    refine wpT_step fun K hK => ?_
    simp only [pickOps, List.map_cons, List.map_nil, List.getD_cons_zero, List.getD_cons_succ]
    go_wp2_with fail
    refine hK _ _ (fun h => absurd h (by decide)) ?_
    clear hK K
    refine wpT_done ?_
    go_wp2_with fail
    have hA : Blk ((wd.alloc (.cells #[.int .i64 x2, .int .i64 x4, .int .i64 x5] 3)).alloc (.cells #[.int .i64 x1, .int .i64 x6, .int .i64 x7, .int .i64 x3] 3)) wd.heap.size 3 #[.int .i64 x2, .int .i64 x4, .int .i64 x5] := (Blk.new wd _ _).alloc _
    have hB : Blk ((wd.alloc (.cells #[.int .i64 x2, .int .i64 x4, .int .i64 x5] 3)).alloc (.cells #[.int .i64 x1, .int .i64 x6, .int .i64 x7, .int .i64 x3] 3)) (wd.heap.size + 1) 3 #[.int .i64 x1, .int .i64 x6, .int .i64 x7, .int .i64 x3] := by
      have h := Blk.new (wd.alloc (.cells #[.int .i64 x2, .int .i64 x4, .int .i64 x5] 3)) 3 #[.int .i64 x1, .int .i64 x6, .int .i64 x7, .int .i64 x3]
      simpa using h
    exact bodyPost_ret (v := .tuple #[.string (bstr (wordL 6)), .slice (some ⟨wd.heap.size + 1, 0, none⟩) 4 4, .slice (some ⟨wd.heap.size, 0, none⟩) 3 3]) (by simp [results, Tryd.results20, go_sem]; rfl) rfl ⟨_, _, _, _, rfl, nam_row hB rfl rfl, nam_row hA rfl rfl, ((unhide HBD).alloc (unhide HBD).size _).alloc (by simp; have := (unhide HBD).size; omega) _⟩
set_option maxRecDepth 100000 in
set_option maxHeartbeats 4000000 in
theorem named8 (x1 x2 x3 x4 x5 x6 x7 : Int) (w : World) :
    Calls Tryd.prog 20 #[.agg #[.int .i64 8, .int .i64 x1, .int .i64 x2, .int .i64 x3, .int .i64 x4, .int .i64 x5, .int .i64 x6, .int .i64 x7]] w (NamPost 7 [8, x1, x2, x3, x4, x5, x6, x7] w) := by
  obtain ⟨wx, hwx⟩ : ∃ wx, wx = w.alloc (.cells #[.int .i64 8, .int .i64 x1, .int .i64 x2, .int .i64 x3, .int .i64 x4, .int .i64 x5, .int .i64 x6, .int .i64 x7] 29) := ⟨_, rfl⟩
  have hbx : Below w.heap.size w wx := by rw [hwx]; exact (Below.refl _ _).alloc (Nat.le_refl _) _
  obtain ⟨p, hp⟩ : ∃ p, p = w.heap.size := ⟨_, rfl⟩
  have kp : Blk wx p 29 #[.int .i64 8, .int .i64 x1, .int .i64 x2, .int .i64 x3, .int .i64 x4, .int .i64 x5, .int .i64 x6, .int .i64 x7] := by rw [hwx, hp]; exact Blk.new _ _ _
  have HP := hide hp
  have HWX := hide hwx
  have HBX := hide hbx
  have c0 : wx.cell? ⟨p, 0, none⟩ = some (.int .i64 8) := kp.cell 0
  have d1 := fun n : Ext wx => n.cell (v := .int .i64 x1) (kp.cell 1)
  have d2 := fun n : Ext wx => n.cell (v := .int .i64 x2) (kp.cell 2)
  have d3 := fun n : Ext wx => n.cell (v := .int .i64 x3) (kp.cell 3)
  have d4 := fun n : Ext wx => n.cell (v := .int .i64 x4) (kp.cell 4)
  have d5 := fun n : Ext wx => n.cell (v := .int .i64 x5) (kp.cell 5)
  have d6 := fun n : Ext wx => n.cell (v := .int .i64 x6) (kp.cell 6)
  have d7 := fun n : Ext wx => n.cell (v := .int .i64 x7) (kp.cell 7)
  clear hp hwx hbx kp
  go_enter Tryd.func20, Tryd.ntmps20
  go_upto_region 1 with fail
  rw [← unhide HP, ← unhide HWX]
  go_upto_region 17 with fail
  refine wp_region_calm_tree [0, 2, 4, 7, 9, 11, 13, 16] [1, 3, 5, 8, 10, 12, 14] [6, 15, 17] 18 [] (treeN 6 15) (by kernel_rfl) (by kernel_rfl) (by intro c a d v w h; cases d <;> exact h) ?_
  simp only [pickOps, List.map_cons, List.map_nil, List.getD_cons_zero, List.getD_cons_succ]
  repeat (go_big_quiet_step (fail))
  refine wpQuiet_nil ?_
  repeat (go_big_quiet_step (fail))
  refine wpQuiet_nil ?_
  obtain ⟨wd, hwd⟩ : ∃ wd, wd = wx.drew := ⟨_, rfl⟩
  have hd0 : Below wx.heap.size wx wd := by rw [hwd]; exact (Below.refl _ _).drew
  have HBD := hide ((unhide HBX).trans (hd0.mono (unhide HBX).size))
  rw [← hwd]
  clear hwd d1 d2 d3 d4 d5 d6 d7 c0
  unfold treeN
  refine wpT_fork ?_ ?_
  · refine wpT_step fun K hK => ?_
    simp only [pickOps, List.map_cons, List.map_nil, List.getD_cons_zero, List.getD_cons_succ]
    go_wp2_with fail
    refine hK _ _ (fun _ => ⟨⟨_, hd0.alloc hd0.size _⟩, rfl⟩) ?_
    clear hK K
    refine wpT_fork ?_ ?_
    · refine wpT_step fun K hK => ?_
      simp only [pickOps, List.map_cons, List.map_nil, List.getD_cons_zero, List.getD_cons_succ]
      go_wp2_with fail
      refine hK _ _ (fun _ => ⟨⟨_, (hd0.alloc hd0.size _).alloc (by simp; have := hd0.size; omega) _⟩, rfl⟩) ?_
      clear hK K
      refine wpT_step fun K hK => ?_
      simp only [pickOps, List.map_cons, List.map_nil, List.getD_cons_zero, List.getD_cons_succ]
      go_wp2_with fail
      refine hK _ _ (fun _ => ⟨⟨_, (hd0.alloc hd0.size _).alloc (by simp; have := hd0.size; omega) _⟩, rfl⟩) ?_
      clear hK K
      refine wpT_step fun K hK => ?_
      simp only [pickOps, List.map_cons, List.map_nil, List.getD_cons_zero, List.getD_cons_succ]
      go_wp2_with fail
      refine hK _ _ (fun h => absurd h (by decide)) ?_
      clear hK K
      refine wpT_done ?_
      go_wp2_with fail
      have hA : Blk ((wd.alloc (.cells #[.int .i64 x1, .int .i64 x6, .int .i64 x7] 3)).alloc (.cells #[.int .i64 x2, .int .i64 x3, .int .i64 x4, .int .i64 x5] 3)) wd.heap.size 3 #[.int .i64 x1, .int .i64 x6, .int .i64 x7] := (Blk.new wd _ _).alloc _
      have hB : Blk ((wd.alloc (.cells #[.int .i64 x1, .int .i64 x6, .int .i64 x7] 3)).alloc (.cells #[.int .i64 x2, .int .i64 x3, .int .i64 x4, .int .i64 x5] 3)) (wd.heap.size + 1) 3 #[.int .i64 x2, .int .i64 x3, .int .i64 x4, .int .i64 x5] := by
        have h := Blk.new (wd.alloc (.cells #[.int .i64 x1, .int .i64 x6, .int .i64 x7] 3)) 3 #[.int .i64 x2, .int .i64 x3, .int .i64 x4, .int .i64 x5]
        simpa using h
      exact bodyPost_ret (v := .tuple #[.string (bstr (wordL 7)), .slice (some ⟨wd.heap.size, 0, none⟩) 3 3, .slice (some ⟨wd.heap.size + 1, 0, none⟩) 4 4]) (by simp [results, Tryd.results20, go_sem]; rfl) rfl ⟨_, _, _, _, rfl, nam_row hA rfl rfl, nam_row hB rfl rfl, ((unhide HBD).alloc (unhide HBD).size _).alloc (by simp; have := (unhide HBD).size; omega) _⟩
    · refine wpT_step fun K hK => ?_
      simp only [pickOps, List.map_cons, List.map_nil, List.getD_cons_zero, List.getD_cons_succ]
      go_wp2_with fail
      refine hK _ _ (fun _ => ⟨⟨_, hd0.alloc hd0.size _⟩, rfl⟩) ?_
      clear hK K
      refine wpT_step fun K hK => ?_
      simp only [pickOps, List.map_cons, List.map_nil, List.getD_cons_zero, List.getD_cons_succ]
      go_wp2_with fail
      refine hK _ _ (fun _ => ⟨⟨_, (hd0.alloc hd0.size _).alloc (by simp; have := hd0.size; omega) _⟩, rfl⟩) ?_
      clear hK K
      refine wpT_step fun K hK => ?_
      simp only [pickOps, List.map_cons, List.map_nil, List.getD_cons_zero, List.getD_cons_succ]
      go_wp2_with fail
      refine hK _ _ (fun h => absurd h (by decide)) ?_
      clear hK K
      refine wpT_done ?_
      go_wp2_with fail
      have hA : Blk ((wd.alloc (.cells #[.int .i64 x1, .int .i64 x6, .int .i64 x7] 3)).alloc (.cells #[.int .i64 x2, .int .i64 x3, .int .i64 x4, .int .i64 x5] 3)) wd.heap.size 3 #[.int .i64 x1, .int .i64 x6, .int .i64 x7] := (Blk.new wd _ _).alloc _
      have hB : Blk ((wd.alloc (.cells #[.int .i64 x1, .int .i64 x6, .int .i64 x7] 3)).alloc (.cells #[.int .i64 x2, .int .i64 x3, .int .i64 x4, .int .i64 x5] 3)) (wd.heap.size + 1) 3 #[.int .i64 x2, .int .i64 x3, .int .i64 x4, .int .i64 x5] := by
        have h := Blk.new (wd.alloc (.cells #[.int .i64 x1, .int .i64 x6, .int .i64 x7] 3)) 3 #[.int .i64 x2, .int .i64 x3, .int .i64 x4, .int .i64 x5]
        simpa using h
      exact bodyPost_ret (v := .tuple #[.string (bstr (wordL 7)), .slice (some ⟨wd.heap.size, 0, none⟩) 3 3, .slice (some ⟨wd.heap.size + 1, 0, none⟩) 4 4]) (by simp [results, Tryd.results20, go_sem]; rfl) rfl ⟨_, _, _, _, rfl, nam_row hA rfl rfl, nam_row hB rfl rfl, ((unhide HBD).alloc (unhide HBD).size _).alloc (by simp; have := (unhide HBD).size; omega) _⟩
  · refine wpT_step fun K hK => ?_
    simp only [pickOps, List.map_cons, List.map_nil, List.getD_cons_zero, List.getD_cons_succ]
    go_wp2_with fail
    refine hK _ _ (fun _ => ⟨⟨_, hd0.alloc hd0.size _⟩, rfl⟩) ?_
    clear hK K
    refine wpT_step fun K hK => ?_
    simp only [pickOps, List.map_cons, List.map_nil, List.getD_cons_zero, List.getD_cons_succ]
    go_wp2_with fail
    refine hK _ _ (fun _ => ⟨⟨_, (hd0.alloc hd0.size _).alloc (by simp; have := hd0.size; omega) _⟩, rfl⟩) ?_
    clear hK K
    refine wpT_step fun K hK => ?_
    simp only [pickOps, List.map_cons, List.map_nil, List.getD_cons_zero, List.getD_cons_succ]
    go_wp2_with fail
    refine hK _ _ (fun _ => ⟨⟨_, (hd0.alloc hd0.size _).alloc (by simp; have := hd0.size; omega) _⟩, rfl⟩) ?_
    clear hK K
    refine wpT_step fun K hK => ?_
    simp only [pickOps, List.map_cons, List.map_nil, List.getD_cons_zero, List.getD_cons_succ]
    go_wp2_with fail
    refine hK _ _ (fun h => absurd h (by decide)) ?_
    clear hK K
    refine wpT_done ?_
    go_wp2_with fail
    have hA : Blk ((wd.alloc (.cells #[.int .i64 x2, .int .i64 x3, .int .i64 x4, .int .i64 x5] 3)).alloc (.cells #[.int .i64 x1, .int .i64 x6, .int .i64 x7] 3)) wd.heap.size 3 #[.int .i64 x2, .int .i64 x3, .int .i64 x4, .int .i64 x5] := (Blk.new wd _ _).alloc _
    have hB : Blk ((wd.alloc (.cells #[.int .i64 x2, .int .i64 x3, .int .i64 x4, .int .i64 x5] 3)).alloc (.cells #[.int .i64 x1, .int .i64 x6, .int .i64 x7] 3)) (wd.heap.size + 1) 3 #[.int .i64 x1, .int .i64 x6, .int .i64 x7] := by
      have h := Blk.new (wd.alloc (.cells #[.int .i64 x2, .int .i64 x3, .int .i64 x4, .int .i64 x5] 3)) 3 #[.int .i64 x1, .int .i64 x6, .int .i64 x7]
      simpa using h
    exact bodyPost_ret (v := .tuple #[.string (bstr (wordL 7)), .slice (some ⟨wd.heap.size + 1, 0, none⟩) 3 3, .slice (some ⟨wd.heap.size, 0, none⟩) 4 4]) (by simp [results, Tryd.results20, go_sem]; rfl) rfl ⟨_, _, _, _, rfl, nam_row hB rfl rfl, nam_row hA rfl rfl, ((unhide HBD).alloc (unhide HBD).size _).alloc (by simp; have := (unhide HBD).size; omega) _⟩
set_option maxRecDepth 100000 in
set_option maxHeartbeats 4000000 in
theorem named9 (x1 x2 x3 x4 x5 x6 x7 : Int) (w : World) :
    Calls Tryd.prog 20 #[.agg #[.int .i64 9, .int .i64 x1, .int .i64 x2, .int .i64 x3, .int .i64 x4, .int .i64 x5, .int .i64 x6, .int .i64 x7]] w (NamPost 8 [9, x1, x2, x3, x4, x5, x6, x7] w) := by
  obtain ⟨wx, hwx⟩ : ∃ wx, wx = w.alloc (.cells #[.int .i64 9, .int .i64 x1, .int .i64 x2, .int .i64 x3, .int .i64 x4, .int .i64 x5, .int .i64 x6, .int .i64 x7] 29) := ⟨_, rfl⟩
  have hbx : Below w.heap.size w wx := by rw [hwx]; exact (Below.refl _ _).alloc (Nat.le_refl _) _
  obtain ⟨p, hp⟩ : ∃ p, p = w.heap.size := ⟨_, rfl⟩
  have kp : Blk wx p 29 #[.int .i64 9, .int .i64 x1, .int .i64 x2, .int .i64 x3, .int .i64 x4, .int .i64 x5, .int .i64 x6, .int .i64 x7] := by rw [hwx, hp]; exact Blk.new _ _ _
  have HP := hide hp
  have HWX := hide hwx
  have HBX := hide hbx
  have c0 : wx.cell? ⟨p, 0, none⟩ = some (.int .i64 9) := kp.cell 0
  have d1 := fun n : Ext wx => n.cell (v := .int .i64 x1) (kp.cell 1)
  have d2 := fun n : Ext wx => n.cell (v := .int .i64 x2) (kp.cell 2)
  have d3 := fun n : Ext wx => n.cell (v := .int .i64 x3) (kp.cell 3)
  have d4 := fun n : Ext wx => n.cell (v := .int .i64 x4) (kp.cell 4)
  have d5 := fun n : Ext wx => n.cell (v := .int .i64 x5) (kp.cell 5)
  have d6 := fun n : Ext wx => n.cell (v := .int .i64 x6) (kp.cell 6)
  have d7 := fun n : Ext wx => n.cell (v := .int .i64 x7) (kp.cell 7)
  clear hp hwx hbx kp
  go_enter Tryd.func20, Tryd.ntmps20
  go_upto_region 1 with fail
  rw [← unhide HP, ← unhide HWX]
  go_upto_region 19 with fail
  refine wp_region_calm_tree [0, 2, 4, 6, 8, 10, 12, 15, 16] [1, 3, 5, 7, 9, 11, 13] [14] 17 [] (OT.line [14, 17] .done) (by kernel_rfl) (by kernel_rfl) (by intro c a d v w h; cases d <;> exact h) ?_
  simp only [pickOps, List.map_cons, List.map_nil, List.getD_cons_zero, List.getD_cons_succ]
  repeat (go_big_quiet_step (fail))
  refine wpQuiet_nil ?_
  repeat (go_big_quiet_step (fail))
  refine wpQuiet_nil ?_
  obtain ⟨wd, hwd⟩ : ∃ wd, wd = wx.drew := ⟨_, rfl⟩
  have hd0 : Below wx.heap.size wx wd := by rw [hwd]; exact (Below.refl _ _).drew
  have HBD := hide ((unhide HBX).trans (hd0.mono (unhide HBX).size))
  rw [← hwd]
  clear hwd d1 d2 d3 d4 d5 d6 d7 c0
  refine wpT_step fun K hK => ?_
  simp only [pickOps, List.map_cons, List.map_nil, List.getD_cons_zero, List.getD_cons_succ]
  go_wp2_with fail
  refine hK _ _ (fun _ => ⟨⟨_, hd0.alloc hd0.size _⟩, rfl⟩) ?_
  clear hK K
  refine wpT_step fun K hK => ?_
  simp only [pickOps, List.map_cons, List.map_nil, List.getD_cons_zero, List.getD_cons_succ]
  go_wp2_with fail
  refine hK _ _ (fun h => absurd h (by decide)) ?_
  clear hK K
  refine wpT_done ?_
  go_wp2_with fail
  have hA : Blk (wd.alloc (.cells #[.int .i64 x1, .int .i64 x2, .int .i64 x3, .int .i64 x4, .int .i64 x5, .int .i64 x6, .int .i64 x7] 3)) wd.heap.size 3 #[.int .i64 x1, .int .i64 x2, .int .i64 x3, .int .i64 x4, .int .i64 x5, .int .i64 x6, .int .i64 x7] := Blk.new wd _ _
  exact bodyPost_ret (v := .tuple #[.string (bstr (wordL 8)), .slice none 0 0, .slice (some ⟨wd.heap.size, 0, none⟩) 7 7]) (by simp [results, Tryd.results20, go_sem]; rfl) rfl ⟨_, _, _, _, rfl, Reads.none_, nam_row hA rfl rfl, (unhide HBD).alloc (unhide HBD).size _⟩
set_option maxRecDepth 100000 in
set_option maxHeartbeats 4000000 in
theorem named10 (x1 x2 x3 x4 x5 x6 x7 : Int) (w : World) :
    Calls Tryd.prog 20 #[.agg #[.int .i64 10, .int .i64 x1, .int .i64 x2, .int .i64 x3, .int .i64 x4, .int .i64 x5, .int .i64 x6, .int .i64 x7]] w (NamPost 9 [10, x1, x2, x3, x4, x5, x6, x7] w) := by
  obtain ⟨wx, hwx⟩ : ∃ wx, wx = w.alloc (.cells #[.int .i64 10, .int .i64 x1, .int .i64 x2, .int .i64 x3, .int .i64 x4, .int .i64 x5, .int .i64 x6, .int .i64 x7] 29) := ⟨_, rfl⟩
  have hbx : Below w.heap.size w wx := by rw [hwx]; exact (Below.refl _ _).alloc (Nat.le_refl _) _
  obtain ⟨p, hp⟩ : ∃ p, p = w.heap.size := ⟨_, rfl⟩
  have kp : Blk wx p 29 #[.int .i64 10, .int .i64 x1, .int .i64 x2, .int .i64 x3, .int .i64 x4, .int .i64 x5, .int .i64 x6, .int .i64 x7] := by rw [hwx, hp]; exact Blk.new _ _ _
  have HP := hide hp
  have HWX := hide hwx
  have HBX := hide hbx
  have c0 : wx.cell? ⟨p, 0, none⟩ = some (.int .i64 10) := kp.cell 0
  have d1 := fun n : Ext wx => n.cell (v := .int .i64 x1) (kp.cell 1)
  have d2 := fun n : Ext wx => n.cell (v := .int .i64 x2) (kp.cell 2)
  have d3 := fun n : Ext wx => n.cell (v := .int .i64 x3) (kp.cell 3)
  have d4 := fun n : Ext wx => n.cell (v := .int .i64 x4) (kp.cell 4)
  have d5 := fun n : Ext wx => n.cell (v := .int .i64 x5) (kp.cell 5)
  have d6 := fun n : Ext wx => n.cell (v := .int .i64 x6) (kp.cell 6)
  have d7 := fun n : Ext wx => n.cell (v := .int .i64 x7) (kp.cell 7)
  clear hp hwx hbx kp
  go_enter Tryd.func20, Tryd.ntmps20
  go_upto_region 1 with fail
  rw [← unhide HP, ← unhide HWX]
  go_upto_region 21 with fail
  refine wp_region_calm_tree [0, 3, 5, 7, 9, 11, 13, 16] [1, 4, 6, 8, 10, 12, 14] [2, 15, 17] 18 [] (treeN 2 15) (by kernel_rfl) (by kernel_rfl) (by intro c a d v w h; cases d <;> exact h) ?_
  simp only [pickOps, List.map_cons, List.map_nil, List.getD_cons_zero, List.getD_cons_succ]
  repeat (go_big_quiet_step (fail))
  refine wpQuiet_nil ?_
  repeat (go_big_quiet_step (fail))
  refine wpQuiet_nil ?_
  obtain ⟨wd, hwd⟩ : ∃ wd, wd = wx.drew := ⟨_, rfl⟩
  have hd0 : Below wx.heap.size wx wd := by rw [hwd]; exact (Below.refl _ _).drew
  have HBD := hide ((unhide HBX).trans (hd0.mono (unhide HBX).size))
  rw [← hwd]
  clear hwd d1 d2 d3 d4 d5 d6 d7 c0
  unfold treeN
  refine wpT_fork ?_ ?_
  · refine wpT_step fun K hK => ?_
    simp only [pickOps, List.map_cons, List.map_nil, List.getD_cons_zero, List.getD_cons_succ]
    go_wp2_with fail
    refine hK _ _ (fun _ => ⟨⟨_, hd0.alloc hd0.size _⟩, rfl⟩) ?_
    clear hK K
    refine wpT_fork ?_ ?_
    · refine wpT_step fun K hK => ?_
      simp only [pickOps, List.map_cons, List.map_nil, List.getD_cons_zero, List.getD_cons_succ]
      go_wp2_with fail
      refine hK _ _ (fun _ => ⟨⟨_, (hd0.alloc hd0.size _).alloc (by simp; have := hd0.size; omega) _⟩, rfl⟩) ?_
      clear hK K
      refine wpT_step fun K hK => ?_
      simp only [pickOps, List.map_cons, List.map_nil, List.getD_cons_zero, List.getD_cons_succ]
      go_wp2_with fail
      refine hK _ _ (fun _ => ⟨⟨_, (hd0.alloc hd0.size _).alloc (by simp; have := hd0.size; omega) _⟩, rfl⟩) ?_
      clear hK K
      refine wpT_step fun K hK => ?_
      simp only [pickOps, List.map_cons, List.map_nil, List.getD_cons_zero, List.getD_cons_succ]
      go_wp2_with fail
      refine hK _ _ (fun h => absurd h (by decide)) ?_
      clear hK K
      refine wpT_done ?_
      go_wp2_with fail
      have hA : Blk ((wd.alloc (.cells #[.int .i64 x5] 3)).alloc (.cells #[.int .i64 x1, .int .i64 x2, .int .i64 x3, .int .i64 x4, .int .i64 x6, .int .i64 x7] 3)) wd.heap.size 3 #[.int .i64 x5] := (Blk.new wd _ _).alloc _
      have hB : Blk ((wd.alloc (.cells #[.int .i64 x5] 3)).alloc (.cells #[.int .i64 x1, .int .i64 x2, .int .i64 x3, .int .i64 x4, .int .i64 x6, .int .i64 x7] 3)) (wd.heap.size + 1) 3 #[.int .i64 x1, .int .i64 x2, .int .i64 x3, .int .i64 x4, .int .i64 x6, .int .i64 x7] := by
        have h := Blk.new (wd.alloc (.cells #[.int .i64 x5] 3)) 3 #[.int .i64 x1, .int .i64 x2, .int .i64 x3, .int .i64 x4, .int .i64 x6, .int .i64 x7]
        simpa using h
      exact bodyPost_ret (v := .tuple #[.string (bstr (wordL 9)), .slice (some ⟨wd.heap.size, 0, none⟩) 1 1, .slice (some ⟨wd.heap.size + 1, 0, none⟩) 6 6]) (by simp [results, Tryd.results20, go_sem]; rfl) rfl ⟨_, _, _, _, rfl, nam_row hA rfl rfl, nam_row hB rfl rfl, ((unhide HBD).alloc (unhide HBD).size _).alloc (by simp; have := (unhide HBD).size; omega) _⟩
    · refine wpT_step fun K hK => ?_
      simp only [pickOps, List.map_cons, List.map_nil, List.getD_cons_zero, List.getD_cons_succ]
      go_wp2_with fail
      refine hK _ _ (fun _ => ⟨⟨_, hd0.alloc hd0.size _⟩, rfl⟩) ?_
      clear hK K
      refine wpT_step fun K hK => ?_
      simp only [pickOps, List.map_cons, List.map_nil, List.getD_cons_zero, List.getD_cons_succ]
      go_wp2_with fail
      refine hK _ _ (fun _ => ⟨⟨_, (hd0.alloc hd0.size _).alloc (by simp; have := hd0.size; omega) _⟩, rfl⟩) ?_
      clear hK K
      refine wpT_step fun K hK => ?_
      simp only [pickOps, List.map_cons, List.map_nil, List.getD_cons_zero, List.getD_cons_succ]
      go_wp2_with fail
      refine hK _ _ (fun h => absurd h (by decide)) ?_
      clear hK K
      refine wpT_done ?_
      go_wp2_with fail
      have hA : Blk ((wd.alloc (.cells #[.int .i64 x5] 3)).alloc (.cells #[.int .i64 x1, .int .i64 x2, .int .i64 x3, .int .i64 x4, .int .i64 x6, .int .i64 x7] 3)) wd.heap.size 3 #[.int .i64 x5] := (Blk.new wd _ _).alloc _
      have hB : Blk ((wd.alloc (.cells #[.int .i64 x5] 3)).alloc (.cells #[.int .i64 x1, .int .i64 x2, .int .i64 x3, .int .i64 x4, .int .i64 x6, .int .i64 x7] 3)) (wd.heap.size + 1) 3 #[.int .i64 x1, .int .i64 x2, .int .i64 x3, .int .i64 x4, .int .i64 x6, .int .i64 x7] := by
        have h := Blk.new (wd.alloc (.cells #[.int .i64 x5] 3)) 3 #[.int .i64 x1, .int .i64 x2, .int .i64 x3, .int .i64 x4, .int .i64 x6, .int .i64 x7]
        simpa using h
      exact bodyPost_ret (v := .tuple #[.string (bstr (wordL 9)), .slice (some ⟨wd.heap.size, 0, none⟩) 1 1, .slice (some ⟨wd.heap.size + 1, 0, none⟩) 6 6]) (by simp [results, Tryd.results20, go_sem]; rfl) rfl ⟨_, _, _, _, rfl, nam_row hA rfl rfl, nam_row hB rfl rfl, ((unhide HBD).alloc (unhide HBD).size _).alloc (by simp; have := (unhide HBD).size; omega) _⟩
  · refine wpT_step fun K hK => ?_
    simp only [pickOps, List.map_cons, List.map_nil, List.getD_cons_zero, List.getD_cons_succ]
    go_wp2_with fail
    refine hK _ _ (fun _ => ⟨⟨_, hd0.alloc hd0.size _⟩, rfl⟩) ?_
    clear hK K
    refine wpT_step fun K hK => ?_
    simp only [pickOps, List.map_cons, List.map_nil, List.getD_cons_zero, List.getD_cons_succ]
    go_wp2_with fail
    refine hK _ _ (fun _ => ⟨⟨_, (hd0.alloc hd0.size _).alloc (by simp; have := hd0.size; omega) _⟩, rfl⟩) ?_
    clear hK K
    refine wpT_step fun K hK => ?_
    simp only [pickOps, List.map_cons, List.map_nil, List.getD_cons_zero, List.getD_cons_succ]
    go_wp2_with fail
    refine hK _ _ (fun _ => ⟨⟨_, (hd0.alloc hd0.size _).alloc (by simp; have := hd0.size; omega) _⟩, rfl⟩) ?_
    clear hK K
    refine wpT_step fun K hK => ?_
    simp only [pickOps, List.map_cons, List.map_nil, List.getD_cons_zero, List.getD_cons_succ]
    go_wp2_with fail
    refine hK _ _ (fun h => absurd h (by decide)) ?_
    clear hK K
    refine wpT_done ?_
    go_wp2_with fail
    have hA : Blk ((wd.alloc (.cells #[.int .i64 x1, .int .i64 x2, .int .i64 x3, .int .i64 x4, .int .i64 x6, .int .i64 x7] 3)).alloc (.cells #[.int .i64 x5] 3)) wd.heap.size 3 #[.int .i64 x1, .int .i64 x2, .int .i64 x3, .int .i64 x4, .int .i64 x6, .int .i64 x7] := (Blk.new wd _ _).alloc _
    have hB : Blk ((wd.alloc (.cells #[.int .i64 x1, .int .i64 x2, .int .i64 x3, .int .i64 x4, .int .i64 x6, .int .i64 x7] 3)).alloc (.cells #[.int .i64 x5] 3)) (wd.heap.size + 1) 3 #[.int .i64 x5] := by
      have h := Blk.new (wd.alloc (.cells #[.int .i64 x1, .int .i64 x2, .int .i64 x3, .int .i64 x4, .int .i64 x6, .int .i64 x7] 3)) 3 #[.int .i64 x5]
      simpa using h
    exact bodyPost_ret (v := .tuple #[.string (bstr (wordL 9)), .slice (some ⟨wd.heap.size + 1, 0, none⟩) 1 1, .slice (some ⟨wd.heap.size, 0, none⟩) 6 6]) (by simp [results, Tryd.results20, go_sem]; rfl) rfl ⟨_, _, _, _, rfl, nam_row hB rfl rfl, nam_row hA rfl rfl, ((unhide HBD).alloc (unhide HBD).size _).alloc (by simp; have := (unhide HBD).size; omega) _⟩
set_option maxRecDepth 100000 in
set_option maxHeartbeats 4000000 in
theorem named11 (x1 x2 x3 x4 x5 x6 x7 : Int) (w : World) :
    Calls Tryd.prog 20 #[.agg #[.int .i64 11, .int .i64 x1, .int .i64 x2, .int .i64 x3, .int .i64 x4, .int .i64 x5, .int .i64 x6, .int .i64 x7]] w (NamPost 10 [11, x1, x2, x3, x4, x5, x6, x7] w) := by
  obtain ⟨wx, hwx⟩ : ∃ wx, wx = w.alloc (.cells #[.int .i64 11, .int .i64 x1, .int .i64 x2, .int .i64 x3, .int .i64 x4, .int .i64 x5, .int .i64 x6, .int .i64 x7] 29) := ⟨_, rfl⟩
  have hbx : Below w.heap.size w wx := by rw [hwx]; exact (Below.refl _ _).alloc (Nat.le_refl _) _
  obtain ⟨p, hp⟩ : ∃ p, p = w.heap.size := ⟨_, rfl⟩
  have kp : Blk wx p 29 #[.int .i64 11, .int .i64 x1, .int .i64 x2, .int .i64 x3, .int .i64 x4, .int .i64 x5, .int .i64 x6, .int .i64 x7] := by rw [hwx, hp]; exact Blk.new _ _ _
  have HP := hide hp
  have HWX := hide hwx
  have HBX := hide hbx
  have c0 : wx.cell? ⟨p, 0, none⟩ = some (.int .i64 11) := kp.cell 0
  have d1 := fun n : Ext wx => n.cell (v := .int .i64 x1) (kp.cell 1)
  have d2 := fun n : Ext wx => n.cell (v := .int .i64 x2) (kp.cell 2)
  have d3 := fun n : Ext wx => n.cell (v := .int .i64 x3) (kp.cell 3)
  have d4 := fun n : Ext wx => n.cell (v := .int .i64 x4) (kp.cell 4)
  have d5 := fun n : Ext wx => n.cell (v := .int .i64 x5) (kp.cell 5)
  have d6 := fun n : Ext wx => n.cell (v := .int .i64 x6) (kp.cell 6)
  have d7 := fun n : Ext wx => n.cell (v := .int .i64 x7) (kp.cell 7)
  clear hp hwx hbx kp
  go_enter Tryd.func20, Tryd.ntmps20
  go_upto_region 1 with fail
  rw [← unhide HP, ← unhide HWX]
  go_upto_region 23 with fail
  refine wp_region_calm_tree [0, 3, 5, 7, 9, 11, 13, 16] [1, 4, 6, 8, 10, 12, 14] [2, 15, 17] 18 [] (treeN 2 15) (by kernel_rfl) (by kernel_rfl) (by intro c a d v w h; cases d <;> exact h) ?_
  simp only [pickOps, List.map_cons, List.map_nil, List.getD_cons_zero, List.getD_cons_succ]
  repeat (go_big_quiet_step (fail))
  refine wpQuiet_nil ?_
  repeat (go_big_quiet_step (fail))
  refine wpQuiet_nil ?_
  obtain ⟨wd, hwd⟩ : ∃ wd, wd = wx.drew := ⟨_, rfl⟩
  have hd0 : Below wx.heap.size wx wd := by rw [hwd]; exact (Below.refl _ _).drew
  have HBD := hide ((unhide HBX).trans (hd0.mono (unhide HBX).size))
  rw [← hwd]
  clear hwd d1 d2 d3 d4 d5 d6 d7 c0
  unfold treeN
  refine wpT_fork ?_ ?_
  · refine wpT_step fun K hK => ?_
    simp only [pickOps, List.map_cons, List.map_nil, List.getD_cons_zero, List.getD_cons_succ]
    go_wp2_with fail
    refine hK _ _ (fun _ => ⟨⟨_, hd0.alloc hd0.size _⟩, rfl⟩) ?_
    clear hK K
    refine wpT_fork ?_ ?_
    · refine wpT_step fun K hK => ?_
      simp only [pickOps, List.map_cons, List.map_nil, List.getD_cons_zero, List.getD_cons_succ]
      go_wp2_with fail
      refine hK _ _ (fun _ => ⟨⟨_, (hd0.alloc hd0.size _).alloc (by simp; have := hd0.size; omega) _⟩, rfl⟩) ?_
      clear hK K
      refine wpT_step fun K hK => ?_
      simp only [pickOps, List.map_cons, List.map_nil, List.getD_cons_zero, List.getD_cons_succ]
      go_wp2_with fail
      refine hK _ _ (fun _ => ⟨⟨_, (hd0.alloc hd0.size _).alloc (by simp; have := hd0.size; omega) _⟩, rfl⟩) ?_
      clear hK K
      refine wpT_step fun K hK => ?_
      simp only [pickOps, List.map_cons, List.map_nil, List.getD_cons_zero, List.getD_cons_succ]
      go_wp2_with fail
      refine hK _ _ (fun h => absurd h (by decide)) ?_
      clear hK K
      refine wpT_done ?_
      go_wp2_with fail
      have hA : Blk ((wd.alloc (.cells #[.int .i64 x5] 3)).alloc (.cells #[.int .i64 x1, .int .i64 x2, .int .i64 x3, .int .i64 x4, .int .i64 x6, .int .i64 x7] 3)) wd.heap.size 3 #[.int .i64 x5] := (Blk.new wd _ _).alloc _
      have hB : Blk ((wd.alloc (.cells #[.int .i64 x5] 3)).alloc (.cells #[.int .i64 x1, .int .i64 x2, .int .i64 x3, .int .i64 x4, .int .i64 x6, .int .i64 x7] 3)) (wd.heap.size + 1) 3 #[.int .i64 x1, .int .i64 x2, .int .i64 x3, .int .i64 x4, .int .i64 x6, .int .i64 x7] := by
        have h := Blk.new (wd.alloc (.cells #[.int .i64 x5] 3)) 3 #[.int .i64 x1, .int .i64 x2, .int .i64 x3, .int .i64 x4, .int .i64 x6, .int .i64 x7]
        simpa using h
      exact bodyPost_ret (v := .tuple #[.string (bstr (wordL 10)), .slice (some ⟨wd.heap.size, 0, none⟩) 1 1, .slice (some ⟨wd.heap.size + 1, 0, none⟩) 6 6]) (by simp [results, Tryd.results20, go_sem]; rfl) rfl ⟨_, _, _, _, rfl, nam_row hA rfl rfl, nam_row hB rfl rfl, ((unhide HBD).alloc (unhide HBD).size _).alloc (by simp; have := (unhide HBD).size; omega) _⟩
    · refine wpT_step fun K hK => ?_
      simp only [pickOps, List.map_cons, List.map_nil, List.getD_cons_zero, List.getD_cons_succ]
      go_wp2_with fail
      refine hK _ _ (fun _ => ⟨⟨_, hd0.alloc hd0.size _⟩, rfl⟩) ?_
      clear hK K
      refine wpT_step fun K hK => ?_
      simp only [pickOps, List.map_cons, List.map_nil, List.getD_cons_zero, List.getD_cons_succ]
      go_wp2_with fail
      refine hK _ _ (fun _ => ⟨⟨_, (hd0.alloc hd0.size _).alloc (by simp; have := hd0.size; omega) _⟩, rfl⟩) ?_
      clear hK K
      refine wpT_step fun K hK => ?_
      simp only [pickOps, List.map_cons, List.map_nil, List.getD_cons_zero, List.getD_cons_succ]
      go_wp2_with fail
      refine hK _ _ (fun h => absurd h (by decide)) ?_
      clear hK K
      refine wpT_done ?_
      go_wp2_with fail
      have hA : Blk ((wd.alloc (.cells #[.int .i64 x5] 3)).alloc (.cells #[.int .i64 x1, .int .i64 x2, .int .i64 x3, .int .i64 x4, .int .i64 x6, .int .i64 x7] 3)) wd.heap.size 3 #[.int .i64 x5] := (Blk.new wd _ _).alloc _
      have hB : Blk ((wd.alloc (.cells #[.int .i64 x5] 3)).alloc (.cells #[.int .i64 x1, .int .i64 x2, .int .i64 x3, .int .i64 x4, .int .i64 x6, .int .i64 x7] 3)) (wd.heap.size + 1) 3 #[.int .i64 x1, .int .i64 x2, .int .i64 x3, .int .i64 x4, .int .i64 x6, .int .i64 x7] := by
        have h := Blk.new (wd.alloc (.cells #[.int .i64 x5] 3)) 3 #[.int .i64 x1, .int .i64 x2, .int .i64 x3, .int .i64 x4, .int .i64 x6, .int .i64 x7]
        simpa using h
      exact bodyPost_ret (v := .tuple #[.string (bstr (wordL 10)), .slice (some ⟨wd.heap.size, 0, none⟩) 1 1, .slice (some ⟨wd.heap.size + 1, 0, none⟩) 6 6]) (by simp [results, Tryd.results20, go_sem]; rfl) rfl ⟨_, _, _, _, rfl, nam_row hA rfl rfl, nam_row hB rfl rfl, ((unhide HBD).alloc (unhide HBD).size _).alloc (by simp; have := (unhide HBD).size; omega) _⟩
  · refine wpT_step fun K hK => ?_
    simp only [pickOps, List.map_cons, List.map_nil, List.getD_cons_zero, List.getD_cons_succ]
    go_wp2_with fail
    refine hK _ _ (fun _ => ⟨⟨_, hd0.alloc hd0.size _⟩, rfl⟩) ?_
    clear hK K
    refine wpT_step fun K hK => ?_
    simp only [pickOps, List.map_cons, List.map_nil, List.getD_cons_zero, List.getD_cons_succ]
    go_wp2_with fail
    refine hK _ _ (fun _ => ⟨⟨_, (hd0.alloc hd0.size _).alloc (by simp; have := hd0.size; omega) _⟩, rfl⟩) ?_
    clear hK K
    refine wpT_step fun K hK => ?_
    simp only [pickOps, List.map_cons, List.map_nil, List.getD_cons_zero, List.getD_cons_succ]
    go_wp2_with fail
    refine hK _ _ (fun _ => ⟨⟨_, (hd0.alloc hd0.size _).alloc (by simp; have := hd0.size; omega) _⟩, rfl⟩) ?_
    clear hK K
    refine wpT_step fun K hK => ?_
    simp only [pickOps, List.map_cons, List.map_nil, List.getD_cons_zero, List.getD_cons_succ]
    go_wp2_with fail
    refine hK _ _ (fun h => absurd h (by decide)) ?_
    clear hK K
    refine wpT_done ?_
    go_wp2_with fail
    have hA : Blk ((wd.alloc (.cells #[.int .i64 x1, .int .i64 x2, .int .i64 x3, .int .i64 x4, .int .i64 x6, .int .i64 x7] 3)).alloc (.cells #[.int .i64 x5] 3)) wd.heap.size 3 #[.int .i64 x1, .int .i64 x2, .int .i64 x3, .int .i64 x4, .int .i64 x6, .int .i64 x7] := (Blk.new wd _ _).alloc _
    have hB : Blk ((wd.alloc (.cells #[.int .i64 x1, .int .i64 x2, .int .i64 x3, .int .i64 x4, .int .i64 x6, .int .i64 x7] 3)).alloc (.cells #[.int .i64 x5] 3)) (wd.heap.size + 1) 3 #[.int .i64 x5] := by
      have h := Blk.new (wd.alloc (.cells #[.int .i64 x1, .int .i64 x2, .int .i64 x3, .int .i64 x4, .int .i64 x6, .int .i64 x7] 3)) 3 #[.int .i64 x5]
      simpa using h
    exact bodyPost_ret (v := .tuple #[.string (bstr (wordL 10)), .slice (some ⟨wd.heap.size + 1, 0, none⟩) 1 1, .slice (some ⟨wd.heap.size, 0, none⟩) 6 6]) (by simp [results, Tryd.results20, go_sem]; rfl) rfl ⟨_, _, _, _, rfl, nam_row hB rfl rfl, nam_row hA rfl rfl, ((unhide HBD).alloc (unhide HBD).size _).alloc (by simp; have := (unhide HBD).size; omega) _⟩
set_option maxRecDepth 100000 in
set_option maxHeartbeats 4000000 in
theorem named_bad (x0 x1 x2 x3 x4 x5 x6 x7 : Int) (w : World) (h : x0 < 1 ∨ 11 < x0) :
    Calls Tryd.prog 20 #[.agg #[.int .i64 x0, .int .i64 x1, .int .i64 x2, .int .i64 x3, .int .i64 x4, .int .i64 x5, .int .i64 x6, .int .i64 x7]] w fun e w' => e = .returned (.tuple #[.string ⟨#[]⟩, .slice none 0 0, .slice none 0 0]) ∧ Below w.heap.size w w' := by
  have HB := hide (show ∀ cs, Below w.heap.size w (w.alloc (.cells cs 29)) from fun cs => (Below.refl _ _).alloc (Nat.le_refl _) _)
  have h1 : (x0 == 1) = false := by simp; omega
  have h2 : (x0 == 2) = false := by simp; omega
  have h3 : (x0 == 3) = false := by simp; omega
  have h4 : (x0 == 4) = false := by simp; omega
  have h5 : (x0 == 5) = false := by simp; omega
  have h6 : (x0 == 6) = false := by simp; omega
  have h7 : (x0 == 7) = false := by simp; omega
  have h8 : (x0 == 8) = false := by simp; omega
  have h9 : (x0 == 9) = false := by simp; omega
  have h10 : (x0 == 10) = false := by simp; omega
  have h11 : (x0 == 11) = false := by simp; omega
  clear h
  go_enter Tryd.func20, Tryd.ntmps20
  go_wp2_with fail
  exact bodyPost_ret (v := .tuple #[.string ⟨#[]⟩, .slice none 0 0, .slice none 0 0]) (by simp [results, Tryd.results20, go_sem]) rfl ⟨rfl, unhide HB _⟩
end Go.Proofs.YtcmkcgegdclllaaDoor
