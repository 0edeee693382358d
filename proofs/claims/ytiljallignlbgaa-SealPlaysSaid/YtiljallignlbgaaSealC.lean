/- seal.Office: Open. Conditions: none beyond what each theorem states. -/
import Derived.Test.YtiljallignlbgaaSealB
import Derived.Test.YtiljallignlbgaaCalmTail
namespace Go.Proofs.Ytiljallignlbgaa
open Go.RowKit
set_option linter.unusedVariables false

def openS (l : List PoD) (top : Int → Int → Int) (to_ id : Int) : (Int → Int → Int) × List Int × Int :=
  if toP l id < 0 then (top, [], 6) else if toP l id ≠ to_ then (top, [], 11) else
    match l[id.toNat]? with
    | none => (top, [], 6)
    | some p => if id < top p.fr p.to_ then (top, [], 10) else (fun f t => if f = p.fr ∧ t = p.to_ then id + 1 else top f t, p.data, 0)
def OpPost (base g b m : Nat) (v : Value) (w : World) (l : List Po) (r : (Int → Int → Int) × List Int × Int) (e : Ending) (w' : World) : Prop :=
  ∃ A n c, e = .returned (.tuple #[.slice A n c, .int .i64 r.2.2]) ∧ w'.ownsRow w.heap.size 5 1 (.slice A n c) n (r.2.1.map (.int .u8)) ∧ OfAt w' base g b v l (m + 1) r.1 ∧ Only (fun k => k = b) w w'
theorem OfAt.more {w : World} {base g b m m' : Nat} {v : Value} {l : List Po} {top : Int → Int → Int} (h : OfAt w base g b v l m top) (hm : m ≤ m') : OfAt w base g b v l m' top := ⟨h.blk, h.own, h.rows, h.map.mono hm, h.wf⟩
theorem OfAt.stored {w w' : World} {base g b m : Nat} {v : Value} {l : List Po} {top top' : Int → Int → Int} (h : OfAt w base g b v l m top) (hm : WayMap w' b (m + 1) top') (hg : w.grownBy w' (some b)) : OfAt w' base g b v l (m + 1) top' := by
  have ho : Only (fun k => k = b) w w' := (Only.refl _ _).grown hg fun k hk _ => (by simpa using hk.symm)
  exact ⟨h.blk.only ho (blk_map_ne h.blk h.map), own_only h.own ho (fun k hk e => own_map_ne h.own h.map (by rw [hk, e])), fun p hp => own_only (h.rows p hp) ho (fun k hk e => own_map_ne (h.rows p hp) h.map (by rw [hk, e])), hm, h.wf⟩
theorem opPost_nil {w w' : World} {base g b m : Nat} {v : Value} {l : List Po} {top : Int → Int → Int} {c : Int} (h : OfAt w base g b v l m top) (hb : Below w.heap.size w w') : OpPost base g b m v w l (top, [], c) (.returned (.tuple #[.slice none 0 0, .int .i64 c])) w' :=
  ⟨none, 0, 0, rfl, World.ownsRow_nil _ _ _ _, (h.calm hb).more (Nat.le_succ _), Only.of_below hb fun x h1 h2 => by omega⟩

set_option maxRecDepth 100000 in
set_option maxHeartbeats 1000000 in
theorem officeOpen_any (base g b m : Nat) (v : Value) (l : List Po) (top : Int → Int → Int) (w : World) (to_ id : Int) (h : OfAt w base g b v l m top) (hlm : l.length ≤ 1000000) (hm : m < maxLen) (hb0 : base ≤ w.heap.size) (hbytes : ∀ p ∈ l, p.n ≤ 1000000) (hw : (Lit.int .i64 to_).wf = true) :
    Calls Try.prog 27 #[.pointer (some ⟨g, 0, none⟩), .int .i64 to_, .int .i64 id] w (OpPost base g b m v w l (openS (l.map (·.d)) top to_ id)) := by
  have HT := hide (officeTo_any base g b m v l top w id h (by omega))
  by_cases h1 : toP (l.map (·.d)) id < 0
  · have HF := hide (show openS (l.map (·.d)) top to_ id = (top, [], 6) from if_pos h1)
    have HX := hide h
    generalize toP (l.map (·.d)) id = who at HT h1
    have hd1 : decide (who < 0) = true := decide_eq_true h1
    clear h
    go_enter Try.func27, Try.ntmps27
    go_wp2_with fail
    refine (unhide HT).mono ?_
    rintro _ _ ⟨rfl, rfl⟩
    go_wp2_with fail
    go_ret2
    rw [unhide HF]
    exact opPost_nil (unhide HX) (Below.refl _ _)
  by_cases h2 : toP (l.map (·.d)) id ≠ to_
  · have HF := hide (show openS (l.map (·.d)) top to_ id = (top, [], 11) by unfold openS; rw [if_neg h1, if_pos h2])
    have HX := hide h
    generalize toP (l.map (·.d)) id = who at HT h1 h2
    have hd1 : decide (who < 0) = false := decide_eq_false h1
    have hd2 : (who != to_) = true := by simpa using h2
    clear h
    go_enter Try.func27, Try.ntmps27
    go_wp2_with fail
    refine (unhide HT).mono ?_
    rintro _ _ ⟨rfl, rfl⟩
    go_wp2_with fail
    go_ret2
    rw [unhide HF]
    exact opPost_nil (unhide HX) (Below.refl _ _)
  have h2' : toP (l.map (·.d)) id = to_ := Classical.not_not.1 h2
  have hid : ¬ id < 0 := fun e => h1 (by unfold toP; rw [if_pos e]; decide)
  obtain ⟨k, rfl⟩ := Int.eq_ofNat_of_zero_le (show 0 ≤ id by omega)
  have hkl : k < l.length := Nat.not_le.1 fun e => h1 (by unfold toP; rw [if_neg hid, Int.toNat_natCast, List.getElem?_map, List.getElem?_eq_none e]; decide)
  obtain ⟨A, c, rfl, _⟩ := own_slice h.own
  obtain ⟨bl, o, x, rfl, hbl, hx, hc⟩ := at_row Po.cells_len (by omega) (Reads.of_own h.own) hkl rfl
  have hxm := List.mem_of_getElem? hx
  have hrow := h.rows x hxm
  have hxw := h.wf x hxm
  have hxn := hbytes x hxm
  obtain ⟨⟨fr, to2, data⟩, A2, n2, c2⟩ := x
  have hto : to2 = to_ := by
    rw [← h2']; unfold toP; rw [if_neg hid, Int.toNat_natCast, List.getElem?_map, hx]; rfl
  subst hto
  have HS := hide (show openS (l.map (·.d)) top to2 k = if (k : Int) < top fr to2 then (top, [], 10) else (fun f t => if f = fr ∧ t = to2 then (k : Int) + 1 else top f t, data, 0) by
    unfold openS; rw [if_neg h1, if_neg h2, Int.toNat_natCast, List.getElem?_map, hx]; rfl)
  rw [h2'] at HT h1
  have hd1 : decide (to2 < 0) = false := decide_eq_false h1
  have d0 := hc 0 _ rfl
  have d1 := hc 1 _ rfl
  have d2 := hc 2 _ rfl
  have e0 := h.c0
  have e1 := h.c1
  simp only [Nat.add_zero] at d0
  dsimp only at d0 d1 d2 hrow hxn hxw
  obtain ⟨q, hq⟩ : ∃ q, q = l.length := ⟨_, rfl⟩
  rw [← hq] at e0 hlm hkl
  have HQ := hide hq
  have hkq : (k : Int) < (q : Int) := by omega
  have HX := hide h
  have HR := hide hrow
  obtain ⟨wx, hwx⟩ : ∃ wx, wx = w.alloc (.cells #[.int .i64 fr, .int .i64 to2, .slice A2 n2 c2] 101) := ⟨_, rfl⟩
  obtain ⟨wy, hwy⟩ : ∃ wy, wy = wx.alloc (.cells #[.int .i64 fr, .int .i64 to2] 102) := ⟨_, rfl⟩
  have hbx : Below w.heap.size w wx := by rw [hwx]; exact (Below.refl _ _).alloc (Nat.le_refl _) _
  have hby : Below w.heap.size w wy := by rw [hwy]; exact hbx.alloc hbx.size _
  have kx : Blk wx w.heap.size 101 #[.int .i64 fr, .int .i64 to2, .slice A2 n2 c2] := by rw [hwx]; exact Blk.new w 101 _
  have hsx : wx.heap.size = w.heap.size + 1 := by rw [hwx]; simp
  have kx2 : Blk wy w.heap.size 101 #[.int .i64 fr, .int .i64 to2, .slice A2 n2 c2] := by rw [hwy]; exact kx.alloc _
  have ky : Blk wy (w.heap.size + 1) 102 #[.int .i64 fr, .int .i64 to2] := by rw [hwy, ← hsx]; exact Blk.new wx 102 _
  have hxy := h.calm hby
  have y1 := hxy.c1
  have z0 := ky.cell 0
  have z1 := ky.cell 1
  have hlk := fun n : Nat => (hxy.map.only (D := fun _ => False) ((Only.refl _ wy).drewN n) (fun e => e)).look fr to2 hxw.1 hxw.2
  have HLK := hide hlk
  unfold wayV at hlk
  have HM := hide hxy.map
  have HXY := hide hxy
  have HBY := hide hby
  have HKX := hide kx2
  have HKY := hide ky
  rw [hwx] at hwy
  have HWY := hide hwy
  have hgn : ¬ g = w.heap.size := fun e => by have := h.blk.lt; omega
  have hgn1 : ¬ g = w.heap.size + 1 := fun e => by have := h.blk.lt; omega
  clear h hx hc hwx hwy hbx hby kx kx2 ky hxy hq hsx hrow h2 h2' h1
  go_enter Try.func27, Try.ntmps27
  go_wp2_with fail
  refine (unhide HT).mono ?_
  rintro _ _ ⟨rfl, rfl⟩
  go_wp2_with fail
  rw [← unhide HWY]
  clear d0 d1 d2 e0 e1
  by_cases hold : (k : Int) < top fr to2
  · have HF := hide (show openS (l.map (·.d)) top to2 k = (top, [], 10) by rw [unhide HS, if_pos hold])
    generalize top fr to2 = tt at hlk hold
    go_quiet (fail)
    go_wp2_with fail
    go_ret2
    rw [unhide HF]
    exact opPost_nil (unhide HX) (below_drewN (unhide HBY) nq)
  · have HF := hide (show openS (l.map (·.d)) top to2 k = (fun f t => if f = fr ∧ t = to2 then (k : Int) + 1 else top f t, data, 0) by rw [unhide HS, if_neg hold])
    have hold' : top fr to2 ≤ (k : Int) := by omega
    clear hold
    generalize top fr to2 = tt at hlk hold'
    go_quiet (fail)
    obtain ⟨na, rfl⟩ : ∃ m, m = nq := ⟨_, rfl⟩
    go_wp2_with fail
    refine wp_region_draw_tail 7 (by kernel_rfl) (by kernel_rfl) ?_
    simp only [List.take_succ_cons, List.take_zero, List.drop_succ_cons, List.drop_zero]
    repeat (go_big_quiet_step (fail))
    refine wpQuiet_nil ?_
    rintro _ ⟨nq2, rfl⟩
    have hbn : Below w.heap.size w (wy.drewN (na + nq2)) := below_drewN (unhide HBY) _
    obtain ⟨w5, hrun, hmap5, hg5⟩ := ((unhide HM).only (D := fun _ => False) ((Only.refl _ wy).drewN (na + nq2)) (fun e => e)).store fr to2 ((k : Int) + 1) hxw.1 hxw.2 (by
      have hmin : IntKind.i64.min = -9223372036854775808 := rfl
      have hmax : IntKind.i64.max = 9223372036854775807 := rfl
      simp only [Lit.wf, Bool.and_eq_true, decide_eq_true_eq]
      omega) hm
    have hx5 := ((unhide HX).calm hbn).stored hmap5 hg5
    have ho5 : Only (fun k => k = b) w w5 := (Only.of_below hbn fun x h1 h2 => by omega).grown hg5 fun k hk _ => (by simpa using hk.symm)
    have hrow5 : PoOwn ⟨⟨fr, to2, data⟩, A2, n2, c2⟩ w5 base := own_only (unhide HR) ho5 (fun k hk e => own_map_ne (unhide HR) (unhide HX).map (by rw [hk, e]))
    have hne : ¬ w.heap.size = b := fun e => by have := (unhide HX).map.lt; omega
    have k5 : Blk w5 w.heap.size 101 #[.int .i64 fr, .int .i64 to2, .slice A2 n2 c2] := ((unhide HKX).below (below_drewN (Below.refl _ wy) (na + nq2)) (unhide HKX).lt).grown hg5 (fun e => hne (by simpa using e))
    have x2 := k5.cell 2
    have HCL := hide (cloneB_any A2 n2 c2 _ w5.heap.size w5 (ints_one2 .u8 data) (by omega) (Reads.of_own hrow5) (Nat.le_refl _))
    have HX5 := hide hx5
    have HO5 := hide ho5
    unfold wayV at hrun
    clear hmap5 hg5 hx5 ho5 hrow5 k5 hbn
    go_wp2_with fail
    refine (unhide HCL).mono ?_
    rintro _ w6 ⟨v6, rfl, ho6, hb6⟩
    obtain ⟨A6, c6, rfl, _⟩ := own_slice ho6
    have HO6 := hide ho6
    have HB6 := hide hb6
    clear ho6 hb6
    go_wp2_with fail
    go_ret2
    rw [unhide HF]
    exact ⟨A6, n2, c6, rfl, own_mono (unhide HO6) (unhide HO5).size, (unhide HX5).calm (unhide HB6), (unhide HO5).calm (unhide HB6)⟩
end Go.Proofs.Ytiljallignlbgaa
