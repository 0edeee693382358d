/- The law BookPlays. Conditions: none beyond what each theorem states. -/
import Derived.Test.YtiljallignlbgaaBookH
import Derived.Test.YtiljallignlbgaaOpen
import Derived.Test.YtiljallignlbgaaCalm
namespace Go.Proofs.Ytiljallignlbgaa
open Go.RowKit Go.ChangeShapes Go.WideShapes Go.Deep
set_option linter.unusedVariables false

theorem open_calls {H : Type} {enc : TypeId × Value → H} {w : World} {base : Nat} {spare : Nat → Bool} {held : Bool} {fuel : Nat} {A : Option Addr} {len cap : Nat} {x : DataW H × List MemPlace}
    (h : DataW.trod enc Try.prog w base spare held fuel 39 [.slice A len cap] = some x) :
    len ≤ cap ∧ cap ≤ maxLen ∧ SliceD x.1 len ∧ ∃ l : List CallD, l.length = len ∧ Reads w w.heap.size 3 A len (l.flatMap CallD.cells) ∧ ∀ a ∈ l, True := by
  refine rows_reads CallD.cells (fun _ => True) Try.underlying39 (size := 3) (by kernel_rfl) (by omega) (fun n cs y hy => ?_) h
  obtain ⟨hl, ys, _, _, m, hf⟩ := struct_cells Try.underlying66 (by kernel_rfl) (by kernel_rfl) hy
  obtain ⟨v0, y0, c0, _, t0⟩ := hf 0 _ rfl
  obtain ⟨v1, y1, c1, _, t1⟩ := hf 1 _ rfl
  obtain ⟨v2, y2, c2, _, t2⟩ := hf 2 _ rfl
  obtain ⟨z0, e0, _, w0⟩ := DataW.trod_int Try.underlying3 t0
  obtain ⟨z1, e1, _, w1⟩ := DataW.trod_int Try.underlying3 t1
  obtain ⟨z2, e2, _, w2⟩ := DataW.trod_int Try.underlying3 t2
  simp at e0 e1 e2
  subst e0 e1 e2
  refine ⟨hl, ⟨z0, z1, z2⟩, ?_, trivial⟩
  match cs, hl with
  | [a, b, c], _ =>
    simp at c0 c1 c2
    subst c0 c1 c2
    rfl
theorem playB_len (most ticks : Int) (l : List CallD) : ∀ s, (playB most ticks s l).length = l.length := by
  induction l with
  | nil => intro s; rfl
  | cons o l ih => intro s; simp [playB, ih]
theorem bookP_len (br most ticks : Int) (l : List CallD) : (bookP br most ticks l).1.length ≤ 300 := by
  unfold bookP
  split
  · simp
  split
  · simp
  · dsimp only; rw [playB_len]; omega

set_option maxHeartbeats 2000000 in
theorem walk_BookPlays (br : Int) (most : Int) (ticks : Int) (A : Option Addr) (n c : Nat) (l : List CallD) (w : World) (_wb : (Lit.int .i64 br).wf = true) (_wm : (Lit.int .i64 most).wf = true) (_wt : (Lit.int .i64 ticks).wf = true) (hnc : n ≤ c) (hcm : c ≤ maxLen) (_hm : n * 24 ≤ 140737488351232) (hl : l.length = n) (hr : Reads w w.heap.size 3 A n (l.flatMap CallD.cells)) :
    Calls Try.prog 5 #[.int .i64 br, .int .i64 most, .int .i64 ticks, .slice A n c] w fun e w' => e = .returned (.bool true) ∧ Below w.heap.size w w' := by
  have H1 := hide (bookPlay_any br most ticks A n c l _ w hl hnc hcm hr (Nat.le_refl _))
  have H2 := hide (fun W (hW : Below w.heap.size w W) => bookPlay_ref br most ticks A n c l _ W hl hnc hcm (hr.below hW) hW.size)
  have hll := bookP_len br most ticks l
  rw [← book_same br most ticks l] at H2
  generalize bookP br most ticks l = pr at *
  obtain ⟨r, rc⟩ := pr
  dsimp only at hll
  have HLL := hide hll
  clear hl hr hnc hcm hll
  go_enter Try.func5, Try.ntmps5
  go_wp2_with fail
  refine (unhide H1).mono ?_
  rintro _ w1 ⟨v1, X, rfl, hd1, ho1, hb1⟩
  obtain ⟨A1, c1, rfl, hc1⟩ := own_slice ho1.own
  have HR1 := hide ho1
  have HB1 := hide hb1
  have hs1 := hb1.size
  have HD1 := hide hd1
  clear ho1 hb1 hd1
  go_wp2_with fail
  refine (unhide H2 _ (unhide HB1)).mono ?_
  rintro _ w2 ⟨v2, Y, rfl, hd2, ho2, hb2⟩
  obtain ⟨A2, c2, rfl, hc2⟩ := own_slice ho2.own
  have ho1' := (unhide HR1).calm hb2
  have HB2 := hide ((unhide HB1).trans (hb2.mono hs1))
  have HO1 := hide ho1'
  have HO2 := hide ho2
  have HD2 := hide hd2
  obtain ⟨m, hm⟩ : ∃ m, m = X.length := ⟨_, rfl⟩
  have hmy : Y.length = m := by
    have h1 := congrArg List.length ((unhide HD2).trans (unhide HD1).symm)
    simp at h1
    omega
  have hll : m ≤ 300 := by
    have h1 := congrArg List.length (unhide HD1)
    simp at h1
    have := unhide HLL
    omega
  have HM := hide hm.symm
  have HMY := hide hmy
  have HQ1 := hide (Reads.of_own ho1'.own)
  have HQ2 := hide (Reads.of_own ho2.own)
  dsimp only
  rw [← hm]
  rw [← hm] at HQ1
  rw [hmy] at HQ2
  rw [hmy]
  clear ho2 hb2 ho1' HR1 hc1 hc2 hd2 hm hmy
  go_wp2_with fail
  go_loopw [13] (fun i wr => ∃ k : Nat, k ≤ m ∧ i = .int .i64 k ∧ Below w2.heap.size w2 wr) (fun i _ => m - (intOf i).toNat)
  case atStart => exact ⟨0, Nat.zero_le _, rfl, Below.refl _ _⟩
  case round =>
    obtain ⟨k, hk, rfl, hb⟩ := hrel
    by_cases hlt : k < m
    · obtain ⟨b1, p1, x, rfl, _, hx, hcx⟩ := at_row Rul.cells_len (by omega) ((unhide HQ1).below hb) hlt (unhide HM)
      obtain ⟨b2, p2, y, rfl, _, hy, hcy⟩ := at_row Rul.cells_len (by omega) ((unhide HQ2).below hb) hlt (unhide HMY)
      have hxy : x.d = y.d := by
        have h1 : (X.map (·.d))[k]? = (Y.map (·.d))[k]? := by rw [unhide HD1, unhide HD2]
        rw [List.getElem?_map, List.getElem?_map, hx, hy] at h1
        simpa using h1
      have hxr := (Reads.of_own ((unhide HO1).rows x (List.mem_of_getElem? hx))).below hb
      have hyr := (Reads.of_own ((unhide HO2).rows y (List.mem_of_getElem? hy))).below hb
      have hxl := ((unhide HO1).rows x (List.mem_of_getElem? hx)).1
      have hyl := ((unhide HO2).rows y (List.mem_of_getElem? hy)).1
      have hxc := (own_caps ((unhide HO1).rows x (List.mem_of_getElem? hx)))
      obtain ⟨⟨xc0, xd, xi⟩, xA, xn, xcap⟩ := x
      obtain ⟨yd, yA, yn, ycap⟩ := y
      dsimp only at hxy
      subst hxy
      dsimp only at hxr hyr hxl hyl hxc
      have hxl' : xd.length = xn := by simpa using hxl
      obtain rfl : xn = yn := by simp at hxl hyl; omega
      have HS := hide (fun W (hW : Below wr.heap.size wr W) => (sameInts_row xA yA xn xcap ycap xd w2.heap.size W hxl' (by have := hxc.2.1; have := hxc.2.2; unfold maxLen at this; omega) (hxr.below (hW.mono hb.size)) (hyr.below (hW.mono hb.size))).mono (R' := fun e w' => e = .returned (.bool true) ∧ Below W.heap.size W w') fun e w' ⟨he, nq, hw⟩ => ⟨he, by rw [← hw]; exact below_drewN (Below.refl _ _) nq⟩)
      have e0 := fun n : Ext wr => n.cell (hcx 0 _ rfl)
      have e1 := fun n : Ext wr => n.cell (hcx 1 _ rfl)
      have e2 := fun n : Ext wr => n.cell (hcx 2 _ rfl)
      have d0 := fun n : Ext wr => n.cell (hcy 0 _ rfl)
      have d1 := fun n : Ext wr => n.cell (hcy 1 _ rfl)
      have d2 := fun n : Ext wr => n.cell (hcy 2 _ rfl)
      simp only [Nat.add_zero] at e0 d0
      have hkm : (k : Int) < (m : Int) := by omega
      have HB := hide hb
      clear hx hy hcx hcy hxr hyr hxl hyl hxc hxl' hb
      go_wp2_with fail
      refine wp_region_calm (by kernel_rfl) (by kernel_rfl) ?_
      repeat (go_big_quiet_step ((go_at_call 13; exact calm_call (unhide HS _ (Ext.h _)))))
      refine wpQuiet_nil ?_
      rintro _ ⟨nq, rfl⟩
      go_wp2_with fail
      have hb2 := (unhide HB).trans (nq.h.mono (unhide HB).size)
      go_roundw
      case rel => exact ⟨k + 1, by omega, by go_num, hb2⟩
      case measure => simp [intOf]; omega
    · obtain rfl : k = m := by omega
      go_wp2_with fail
      go_ret
      exact ⟨rfl, (unhide HB2).trans (hb.mono (unhide HB2).size)⟩
end Go.Proofs.Ytiljallignlbgaa
