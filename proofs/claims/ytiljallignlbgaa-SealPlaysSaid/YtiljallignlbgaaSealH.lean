/- The law SealPlays. Conditions: none beyond what each theorem states. -/
import Derived.Test.YtiljallignlbgaaSealG
import Derived.Test.YtiljallignlbgaaBytesSame
import Derived.Test.YtiljallignlbgaaOpen
import Derived.Test.YtiljallignlbgaaCalm
namespace Go.Proofs.Ytiljallignlbgaa
open Go.RowKit Go.ChangeShapes Go.WideShapes Go.Deep
set_option linter.unusedVariables false

theorem open_dataB {H : Type} {enc : TypeId × Value → H} {w : World} {base : Nat} {spare : Nat → Bool} {held : Bool} {fuel : Nat} {cs : List Value} {x : DataW H × List MemPlace} (h : DataW.trod enc Try.prog w base spare held fuel 34 cs = some x) :
    ∃ A n c, ∃ l : List Int, cs = [.slice A n c] ∧ l.length = n ∧ n ≤ c ∧ c ≤ maxLen ∧ Reads w w.heap.size 1 A n (l.map (.int .u8)) := by
  rcases open_slice Try.underlying34 h with ⟨rfl, _⟩ | ⟨a, len, cap, m, n, D, Pl, rfl, _⟩
  · exact ⟨none, 0, 0, [], rfl, rfl, Nat.le_refl _, Nat.zero_le _, Reads.none_⟩
  · obtain ⟨h1, h2, zs, h3, h4, _⟩ := ints_reads Try.underlying34 Try.underlying5 (by kernel_rfl) h
    exact ⟨some a, len, cap, zs, rfl, h3, h1, h2, h4⟩
theorem open_letters {H : Type} {enc : TypeId × Value → H} {w : World} {base : Nat} {spare : Nat → Bool} {held : Bool} {fuel : Nat} {A : Option Addr} {len cap : Nat} {x : DataW H × List MemPlace}
    (h : DataW.trod enc Try.prog w base spare held fuel 30 [.slice A len cap] = some x) :
    len ≤ cap ∧ cap ≤ maxLen ∧ SliceD x.1 len ∧ ∃ l : List Lt, l.length = len ∧ Reads w w.heap.size 5 A len (l.flatMap Lt.cells) ∧ ∀ a ∈ l, a.ok w w.heap.size := by
  refine rows_reads Lt.cells (fun a => a.ok w w.heap.size) Try.underlying30 (size := 5) (by kernel_rfl) (by omega) (fun n cs y hy => ?_) h
  obtain ⟨hl, ys, _, _, m, hf⟩ := struct_cells Try.underlying61 (by kernel_rfl) (by kernel_rfl) hy
  obtain ⟨v0, y0, c0, _, t0⟩ := hf 0 _ rfl
  obtain ⟨v1, y1, c1, _, t1⟩ := hf 1 _ rfl
  obtain ⟨v2, y2, c2, _, t2⟩ := hf 2 _ rfl
  obtain ⟨v3, y3, c3, _, t3⟩ := hf 3 _ rfl
  obtain ⟨v4, y4, c4, _, t4⟩ := hf 4 _ rfl
  obtain ⟨z0, e0, _, w0⟩ := DataW.trod_int Try.underlying3 t0
  obtain ⟨z1, e1, _, w1⟩ := DataW.trod_int Try.underlying3 t1
  obtain ⟨z2, e2, _, w2⟩ := DataW.trod_int Try.underlying3 t2
  obtain ⟨z3, e3, _, w3⟩ := DataW.trod_int Try.underlying3 t3
  obtain ⟨sA, sn, sc, sl, e4, u1, u2, u3, u4⟩ := open_dataB t4
  simp at e0 e1 e2 e3 e4
  subst e0 e1 e2 e3 e4
  refine ⟨hl, ⟨⟨z0, z1, z2, z3, sl⟩, sA, sn, sc⟩, ?_, ⟨u1, u2, u3, u4, w1, w2⟩⟩
  match cs, hl with
  | [a, b, c, d, e], _ =>
    simp at c0 c1 c2 c3 c4
    subst c0 c1 c2 c3 c4
    rfl

theorem playM_len (l : List LtD) : ∀ s, (playM s l).length = l.length := by
  induction l with
  | nil => intro s; rfl
  | cons o l ih => intro s; simp [playM, ih]
theorem sealP_len (l : List LtD) : (sealP l).1.length ≤ 300 := by
  unfold sealP
  split
  · simp
  · dsimp only; rw [playM_len]; omega

set_option maxHeartbeats 2000000 in
theorem walk_SealPlays (A : Option Addr) (n c : Nat) (l : List Lt) (w : World) (hnc : n ≤ c) (hcm : c ≤ maxLen) (_hm : n * 56 ≤ 140737488351232) (hl : l.length = n) (hr : Reads w w.heap.size 5 A n (l.flatMap Lt.cells)) (hok : ∀ x ∈ l, x.ok w w.heap.size) :
    Calls Try.prog 4 #[.slice A n c] w fun e w' => e = .returned (.bool true) ∧ Below w.heap.size w w' := by
  have H1 := hide (sealPlay_any A n c l _ w hl hnc hcm hr hok (Nat.le_refl _))
  have H2 := hide (fun W (hW : Below w.heap.size w W) => sealPlay_ref A n c l _ W hl hnc hcm (hr.below hW) (fun x hx => (hok x hx).below hW) hW.size)
  have hll := sealP_len (l.map (·.d))
  rw [← sealP_same (l.map (·.d))] at H2
  generalize sealP (l.map (·.d)) = pr at *
  obtain ⟨r, rc⟩ := pr
  dsimp only at hll
  have HLL := hide hll
  clear hl hr hnc hcm hok hll
  go_enter Try.func4, Try.ntmps4
  go_wp2_with fail
  refine (unhide H1).mono ?_
  rintro _ w1 ⟨v1, X, rfl, hd1, ho1, hb1⟩
  obtain ⟨A1, c1, rfl, hc1⟩ := own_slice ho1.own
  have HR1 := hide ho1
  have HB1 := hide hb1
  have hs1 := hb1.size
  have HD1 := hide hd1
  clear ho1 hb1 hd1
  go_wp2_with fail
  refine (unhide H2 _ (unhide HB1)).mono ?_
  rintro _ w2 ⟨v2, Y, rfl, hd2, ho2, hb2⟩
  obtain ⟨A2, c2, rfl, hc2⟩ := own_slice ho2.own
  have ho1' := (unhide HR1).calm hb2
  have HB2 := hide ((unhide HB1).trans (hb2.mono hs1))
  have HO1 := hide ho1'
  have HO2 := hide ho2
  have HD2 := hide hd2
  obtain ⟨m, hm⟩ : ∃ m, m = X.length := ⟨_, rfl⟩
  have hmy : Y.length = m := by
    have h1 := congrArg List.length ((unhide HD2).trans (unhide HD1).symm)
    simp at h1
    omega
  have hll : m ≤ 300 := by
    have h1 := congrArg List.length (unhide HD1)
    simp at h1
    have := unhide HLL
    omega
  have HM := hide hm.symm
  have HMY := hide hmy
  have HQ1 := hide (Reads.of_own ho1'.own)
  have HQ2 := hide (Reads.of_own ho2.own)
  dsimp only
  rw [← hm]
  rw [← hm] at HQ1
  rw [hmy] at HQ2
  rw [hmy]
  clear ho2 hb2 ho1' HR1 hc1 hc2 hd2 hm hmy
  go_wp2_with fail
  go_loopw [7] (fun i wr => ∃ k : Nat, k ≤ m ∧ i = .int .i64 k ∧ Below w2.heap.size w2 wr) (fun i _ => m - (intOf i).toNat)
  case atStart => exact ⟨0, Nat.zero_le _, rfl, Below.refl _ _⟩
  case round =>
    obtain ⟨k, hk, rfl, hb⟩ := hrel
    by_cases hlt : k < m
    · obtain ⟨b1, p1, x, rfl, _, hx, hcx⟩ := at_row Od.cells_len (by omega) ((unhide HQ1).below hb) hlt (unhide HM)
      obtain ⟨b2, p2, y, rfl, _, hy, hcy⟩ := at_row Od.cells_len (by omega) ((unhide HQ2).below hb) hlt (unhide HMY)
      have hxy : x.d = y.d := by
        have h1 : (X.map (·.d))[k]? = (Y.map (·.d))[k]? := by rw [unhide HD1, unhide HD2]
        rw [List.getElem?_map, List.getElem?_map, hx, hy] at h1
        simpa using h1
      have hxr := (Reads.of_own ((unhide HO1).rows x (List.mem_of_getElem? hx))).below hb
      have hyr := (Reads.of_own ((unhide HO2).rows y (List.mem_of_getElem? hy))).below hb
      have hxl := ((unhide HO1).rows x (List.mem_of_getElem? hx)).1
      have hyl := ((unhide HO2).rows y (List.mem_of_getElem? hy)).1
      have hxc := (own_caps ((unhide HO1).rows x (List.mem_of_getElem? hx)))
      obtain ⟨⟨xc0, xi, xs, xd⟩, xA, xn, xcap⟩ := x
      obtain ⟨yd, yA, yn, ycap⟩ := y
      dsimp only at hxy
      subst hxy
      dsimp only at hxr hyr hxl hyl hxc
      have hxl' : xd.length = xn := by simpa using hxl
      obtain rfl : xn = yn := by simp at hxl hyl; omega
      have HS := hide (fun W (hW : Below wr.heap.size wr W) => (sameBytes_row xA yA xn xcap ycap xd w2.heap.size W hxl' (by have := hxc.2.1; have := hxc.2.2; unfold maxLen at this; omega) (hxr.below (hW.mono hb.size)) (hyr.below (hW.mono hb.size))).mono (R' := fun e w' => e = .returned (.bool true) ∧ Below W.heap.size W w') fun e w' ⟨he, nq, hw⟩ => ⟨he, by rw [← hw]; exact below_drewN (Below.refl _ _) nq⟩)
      have e0 := fun n : Ext wr => n.cell (hcx 0 _ rfl)
      have e1 := fun n : Ext wr => n.cell (hcx 1 _ rfl)
      have e2 := fun n : Ext wr => n.cell (hcx 2 _ rfl)
      have e3 := fun n : Ext wr => n.cell (hcx 3 _ rfl)
      have d0 := fun n : Ext wr => n.cell (hcy 0 _ rfl)
      have d1 := fun n : Ext wr => n.cell (hcy 1 _ rfl)
      have d2 := fun n : Ext wr => n.cell (hcy 2 _ rfl)
      have d3 := fun n : Ext wr => n.cell (hcy 3 _ rfl)
      simp only [Nat.add_zero] at e0 d0
      have hkm : (k : Int) < (m : Int) := by omega
      have HB := hide hb
      clear hx hy hcx hcy hxr hyr hxl hyl hxc hxl' hb
      go_wp2_with fail
      refine wp_region_calm (by kernel_rfl) (by kernel_rfl) ?_
      repeat (go_big_quiet_step ((go_at_call 10; exact calm_call (unhide HS _ (Ext.h _)))))
      refine wpQuiet_nil ?_
      rintro _ ⟨nq, rfl⟩
      go_wp2_with fail
      have hb2 := (unhide HB).trans (nq.h.mono (unhide HB).size)
      go_roundw
      case rel => exact ⟨k + 1, by omega, by go_num, hb2⟩
      case measure => simp [intOf]; omega
    · obtain rfl : k = m := by omega
      go_wp2_with fail
      go_ret
      exact ⟨rfl, (unhide HB2).trans (hb.mono (unhide HB2).size)⟩
end Go.Proofs.Ytiljallignlbgaa
