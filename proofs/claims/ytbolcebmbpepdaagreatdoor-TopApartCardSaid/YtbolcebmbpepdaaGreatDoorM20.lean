/- Contracts and plain facts, set together by program out of smaller texts. Conditions: none beyond what each theorem states. -/
import Derived.Test.YtbolcebmbpepdaaGreatDoorM19
namespace Go.Proofs.YtbolcebmbpepdaaGreatDoor
set_option linter.unusedVariables false
section
open Go.RowKit
set_option maxRecDepth 100000 in
set_option maxHeartbeats 2000000 in
theorem order7 (base g o : Nat) (cs : Array Value) (s : Shf) (v : Value) (w : World) (n life id K : Int) (h : ShAt w base g o cs s v) (hs : s.ok K) (hK : K ≤ 1000000) (hB : base ≤ w.heap.size)  :
    Calls Tryz.prog 102 #[.pointer (some ⟨g, o, none⟩), (⟨7, n, life, id⟩ : Ordr).val] w (zDy base g o cs v w (s.order ⟨7, n, life, id⟩)) := by
 unfold Ordr.val
 dsimp only
 obtain ⟨wx, hwx⟩ : ∃ wx, wx = w.alloc (.cells #[.int .i64 7, .int .i64 n, .int .i64 life, .int .i64 id] 130) := ⟨_, rfl⟩
 have hbx : Below w.heap.size w wx := by rw [hwx]; exact (Below.refl _ _).alloc (Nat.le_refl _) _
 have k0 : Blk wx w.heap.size 130 #[.int .i64 7, .int .i64 n, .int .i64 life, .int .i64 id] := by rw [hwx]; exact Blk.new w 130 _
 have hx := h.calm hbx
 have q0 := k0.cell 0
 have q1 := k0.cell 1
 have q2 := k0.cell 2
 have q3 := k0.cell 3
 have c0 := hx.c0
 have c1 := hx.c1
 have c3 := hx.c3
 have q0a := q0
 have q1a := q1
 have q2a := q2
 have q3a := q3
 have c3a := c3
 rw [hwx] at q0a q1a q2a q3a c3a
 have hf0 := hs.free0
 have hu0 := hs.used0
 obtain ⟨hf1, hu1, hh0, hh1⟩ := zEb hs
 have hll := hs.len
 have HX := hide hx
 have HBX := hide hbx
 have HWX := hide hwx
 have HS := hide hs
 obtain ⟨A, c, rfl, hnc⟩ := zAf h.own
 have HK0 := hide k0
 have HNE := hide (show g ≠ w.heap.size by have := h.blk.lt; omega)
 obtain ⟨m, hm⟩ : ∃ m, m = s.opn.length := ⟨_, rfl⟩
 have HM := hide hm
 rw [← hm] at c3 c3a hll hnc
 clear hx h hbx hs k0 hwx hm
 have HF := hide (show s.order ⟨7, n, life, id⟩ = (⟨s.free + zCd (s.opn.map aged), s.used, s.made, stays (s.opn.map aged)⟩, 0, 0) by
  unfold Shf.order
  simp [zCw])
 have hm9 : m ≤ 9223372036854775807 := by omega
 by_cases hc : n < 1
 all_goals
  first | (have hd1 : decide (1 ≤ n) = false := decide_eq_false (by omega)) | (have hd1 : decide (1 ≤ n) = true := decide_eq_true (by omega))
  clear hc
  go_enter Tryz.func102, Tryz.ntmps102
  go_wp2_with fail
  rw [← zAa HWX]
  clear q0 q1 q2 q3 q0a q1a q2a q3a c3a c0 c1 c3
  go_loopw [113] (fun i wr => ∃ k : Nat, k ≤ m ∧ i = .int .i64 k ∧ Hid (ShAt wr base g o cs { s with opn := zEi s.opn k } (.slice A s.opn.length c)) ∧ Hid (Only (fun k => Value.ownBlock (.slice A s.opn.length c) = some k) wx wr)) (fun i _ => m - (intOf i).toNat)
  case atStart => exact ⟨0, Nat.zero_le _, rfl, by rw [zXo]; exact HX, Only.refl _ _⟩
  case round =>
   obtain ⟨k, hk, rfl, HXR, HOR⟩ := hrel
   by_cases hlt : k < m
   ·have hkl : k < s.opn.length := by rw [← zAa HM]; exact hlt
    obtain ⟨x, hx⟩ : ∃ x, s.opn[k]? = some x := ⟨_, List.getElem?_eq_getElem hkl⟩
    have c3r := (zAa HXR).c3
    rw [← zAa HM] at c3r
    have hown := (zAa HXR).own
    obtain ⟨gg, cap, hv, hbg, hglt⟩ := hown.form (by show 0 < (zEi s.opn k).length; rw [zMh]; omega)
    injection hv with hA hn hcc
    subst hA
    clear hn hcc
    have hget : (zEi s.opn k)[k]? = some x := by rw [yAp _ _ hkl]; exact hx
    have hlen : (zEi s.opn k).length = s.opn.length := zMh _ _
    dsimp only at hown
    rw [hlen] at hown
    have de := zEz hown (k * 3 + 2) (by rw [zEk Hd.cells 3 Hd.cells_len _ k 2 (by omega), hget]; rfl)
    have df : wr.frozen? ⟨gg, k * 3 + 2, none⟩ = false := by
     have := (zLx hown (k * 3 + 2) (by have := (zCx hown).2.1; omega)).2
     exact this
    have hag := own_ages hown hget
    rw [yBc _ _ _ hx] at hag
    have hM := (zAa HXR).blk
    have hne : g ≠ gg := fun e => (zAa HXR).ne (by rw [e]; rfl)
    have HX2 := hide (ShAt.row_ (l := zEi s.opn (k + 1)) (zAa HXR) (by rw [zMh]; exact hag) (hM.far (p := ⟨gg, k * 3 + 2, none⟩) hne _))
    have HO2 := hide ((zAa HOR).setCell (p := ⟨gg, k * 3 + 2, none⟩) (fun _ => rfl) (.int .i64 (x.life - 1)))
    have hxl := (zAa HS).each x (List.mem_of_getElem? hx)
    obtain ⟨_, _, _, _, hx1, hx2⟩ := hxl
    have hki : (k : Int) < (m : Int) := by omega
    clear hown hget hlen hag hM hx
    go_wp2_with fail
    go_roundw
    case rel => exact ⟨k + 1, by omega, by go_num, HX2, HO2⟩
    case measure => simp [intOf]; omega
   ·obtain rfl : k = m := by omega
    have HXA := hide (show ShAt wr base g o cs { s with opn := s.opn.map aged } (.slice A s.opn.length c) by
     have h := zAa HXR
     rwa [zAa HM, yAe] at h)
    have c3r := (zAa HXA).c3
    rw [← zAa HM] at c3r
    have HOA := hide (zAa HOR)
    clear HXR HOR hlt
    go_wp2_with fail
    obtain ⟨wa, hwa⟩ : ∃ wa, wa = wr := ⟨_, rfl⟩
    rw [← hwa] at HXA HOA c3r ⊢
    clear hwa
    go_loopw [133] (fun i wr => ∃ (j : Nat) (cs' : Array Value), j ≤ k ∧ i = .int .i64 j ∧ Hid (cs' = putAt cs o ((⟨s.free + zCd ((s.opn.map aged).take j), s.used, s.made, s.opn.map aged⟩ : Shf).cells (.slice A s.opn.length c))) ∧ Hid (ShAt wr base g o cs' ⟨s.free + zCd ((s.opn.map aged).take j), s.used, s.made, s.opn.map aged⟩ (.slice A s.opn.length c)) ∧ Hid (Only (fun x => x = g) wa wr)) (fun i _ => k - (intOf i).toNat)
    case atStart =>
     refine ⟨0, cs, Nat.zero_le _, rfl, ?_, ?_, Only.refl _ _⟩
     ·have h := (zAa HXA).has
      have e : s.free + zCd ((s.opn.map aged).take 0) = s.free := by simp [zCd]
      show cs = _
      rw [e, zMf cs o _ h]
     ·have e : s.free + zCd ((s.opn.map aged).take 0) = s.free := by simp [zCd]
      show ShAt _ _ _ _ _ _ _
      rw [e]
      exact zAa HXA
    case round =>
     obtain ⟨j, cs', hj, rfl, HCS, HXR, HOR⟩ := hrel
     have hlA : (s.opn.map aged).length = s.opn.length := List.length_map ..
     have hcnt : ∀ x ∈ s.opn.map aged, 0 ≤ x.count := fun x hx => by
      obtain ⟨y, hy, rfl⟩ := List.mem_map.1 hx
      have := (zAa HS).each y hy
      show 0 ≤ y.count
      omega
     obtain ⟨hb0, hb1⟩ := zMj hcnt j
     rw [zLn] at hb1
     have hall := (zAa HS).all
     by_cases hlt2 : j < k
     ·have hjl : j < (s.opn.map aged).length := by rw [hlA, ← zAa HM]; exact hlt2
      obtain ⟨x, hx⟩ : ∃ x, (s.opn.map aged)[j]? = some x := ⟨_, List.getElem?_eq_getElem hjl⟩
      have hown := (zAa HXR).own
      dsimp only at hown
      rw [hlA] at hown
      obtain ⟨gg, cap, hv, hbg, hglt⟩ := hown.form (by rw [← zAa HM]; omega)
      injection hv with hA hn hcc
      subst hA
      clear hn hcc
      have e0 := zEz hown (j * 3 + 0) (by rw [zEk Hd.cells 3 Hd.cells_len _ j 0 (by omega), hx]; rfl)
      have e1 := zEz hown (j * 3 + 1) (by rw [zEk Hd.cells 3 Hd.cells_len _ j 1 (by omega), hx]; rfl)
      have e2 := zEz hown (j * 3 + 2) (by rw [zEk Hd.cells 3 Hd.cells_len _ j 2 (by omega), hx]; rfl)
      simp only [Nat.add_zero] at e0
      have HOV := hide (yBf _ j x hx)
      have hxc := hcnt x (List.mem_of_getElem? hx)
      have hb2 := zMj hcnt (j + 1)
      rw [zLn] at hb2
      have hxm : x.count ≤ 1048576 := by
       obtain ⟨y, hy, rfl⟩ := List.mem_map.1 (List.mem_of_getElem? hx)
       have := (zAa HS).each y hy
       show y.count ≤ 1048576
       omega
      obtain ⟨q, hq⟩ : ∃ q, q = zCd ((s.opn.map aged).take j) := ⟨_, rfl⟩
      rw [← hq] at HXR HCS hb0 hb1 HOV
      have HQ := hide hq
      have hjk : (j : Int) < (k : Int) := by omega
      have HCL := hide (fun W => zOu x W)
      have HXF := hide (show x.life = 0 → zCd ((s.opn.map aged).take (j + 1)) = q + x.count from fun h => by rw [zAa HOV, if_pos h])
      have HXG := hide (show x.life ≠ 0 → zCd ((s.opn.map aged).take (j + 1)) = q from fun h => by rw [zAa HOV, if_neg h]; omega)
      obtain ⟨xi, xc, xl⟩ := x
      dsimp only at e0 e1 e2 hxc hxm HCL HXF HXG
      clear hown hx hq HOV hb2 hcnt hlA
      by_cases hz : xl = 0
      ·have hzb : (xl == 0) = true := by simp [hz]
       rw [hzb] at HCL
       have HNX := hide (zAa HXF hz)
       clear hz hzb HXF HXG
       go_wp2_with fail
       refine (zAa HCL _).mono ?_
       rintro _ w3 ⟨rfl, hb3⟩
       have hwb : Below wr.heap.size wr (wr.alloc (.cells #[.int .i64 xi, .int .i64 xc, .int .i64 xl] 161)) := (Below.refl _ _).alloc (Nat.le_refl _) _
       have hb3' : Below wr.heap.size wr w3 := hwb.trans (hb3.mono hwb.size)
       have kx := Blk.below (Blk.new wr 161 #[.int .i64 xi, .int .i64 xc, .int .i64 xl]) hb3 (by simp)
       have r1 := kx.cell 1
       have hx3 := (zAa HXR).calm hb3'
       have d0 := hx3.c0
       have f0 := hx3.fr o
       have HX3 := hide hx3
       have HB3 := hide hb3'
       clear hb3 hb3' kx hx3 hwb e0 e1 e2
       dsimp only at d0
       go_wp2_with fail
       refine zCo 9 (by kernel_rfl) (by kernel_rfl) ?_
       simp only [List.take_succ_cons, List.take_zero, List.drop_succ_cons, List.drop_zero]
       repeat (go_big_quiet_step (fail))
       refine wpQuiet_nil ?_
       rintro _ ⟨nq2, rfl⟩
       go_wp2_with fail
       have hx4 := ((zAa HX3).calm (below_drewN (Below.refl _ _) nq2)).free_ (s.free + q + xc)
       have HX4 := hide hx4
       have HO4 := hide (Only.setCell (D := fun x => x = g) (((zAa HOR).calm (zAa HB3)).drewN nq2) (p := ⟨g, o, none⟩) (fun _ => rfl) (.int .i64 (s.free + q + xc)))
       clear hx4
       go_roundw
       case rel =>
        refine ⟨j + 1, putAt cs o ((⟨s.free + (q + xc), s.used, s.made, s.opn.map aged⟩ : Shf).cells (.slice (some ⟨gg, 0, none⟩) s.opn.length c)), by omega, by go_num, ?_, ?_, HO4⟩
        ·show _ = putAt cs o _
         rw [zAa HNX]
        ·have h := zAa HX4
         show ShAt _ _ _ _ _ _ _
         rw [zAa HNX]
         rw [zAa HCS, zGb _ _ _ _ (by simp [Shf.cells])] at h
         rw [← Int.add_assoc]
         exact h
       case measure => simp [intOf]; omega
      ·have hzb : (xl == 0) = false := by simpa using hz
       rw [hzb] at HCL
       have HNX := hide (zAa HXG hz)
       clear hz hzb HXF HXG
       go_wp2_with fail
       refine (zAa HCL _).mono ?_
       rintro _ w3 ⟨rfl, hb3⟩
       have hwb : Below wr.heap.size wr (wr.alloc (.cells #[.int .i64 xi, .int .i64 xc, .int .i64 xl] 161)) := (Below.refl _ _).alloc (Nat.le_refl _) _
       have hb3' : Below wr.heap.size wr w3 := hwb.trans (hb3.mono hwb.size)
       have HX3 := hide ((zAa HXR).calm hb3')
       have HO3 := hide ((zAa HOR).calm hb3')
       clear hb3 hb3' hwb e0 e1 e2
       go_wp2_with fail
       go_roundw
       case rel =>
        refine ⟨j + 1, cs', by omega, by go_num, ?_, ?_, HO3⟩
        ·show _ = putAt cs o _
         rw [zAa HNX]; exact zAa HCS
        ·show ShAt _ _ _ _ _ _ _
         rw [zAa HNX]; exact zAa HX3
       case measure => simp [intOf]; omega
     ·obtain rfl : j = k := by omega
      have hAll : (s.opn.map aged).take j = s.opn.map aged := List.take_of_length_le (by rw [hlA, ← zAa HM]; exact Nat.le_refl _)
      have HX5 := hide (show ShAt wr base g o cs' ⟨s.free + zCd (s.opn.map aged), s.used, s.made, s.opn.map aged⟩ (.slice A s.opn.length c) by
       have h := zAa HXR
       rwa [hAll] at h)
      have hcs : cs' = putAt cs o ((⟨s.free + zCd (s.opn.map aged), s.used, s.made, s.opn.map aged⟩ : Shf).cells (.slice A s.opn.length c)) := by
       have h := zAa HCS
       rwa [hAll] at h
      have HCS5 := hide hcs
      have c3z := (zAa HX5).c3
      rw [← zAa HM] at c3z
      have HDEL := hide (zSv 122 (fun h => h.life == 0) base A j c (s.opn.map aged) wr (by omega) (by have := (zAa HX5).own; dsimp only at this; rwa [hlA, ← zAa HM] at this) (by rw [hlA, ← zAa HM]) (by
       have h0 := (zAa HBX).size
       have h1 := (zAa HOA).size
       have h2 := (zAa HOR).size
       omega) zQv (fun e W => zOu e W))
      clear HXR HCS hAll hcs hcnt hlA hall hb0 hb1 hlt2
      go_wp2_with fail
      refine (zAa HDEL).mono ?_
      rintro _ w5 ⟨v5, rfl, hown5, hO5, hat5⟩
      obtain ⟨A5, c5, hv5, _⟩ := zAf hown5
      obtain ⟨n5, hn5⟩ : ∃ n5, n5 = ((s.opn.map aged).filter fun e => !(e.life == 0)).length := ⟨_, rfl⟩
      rw [← hn5] at hv5
      subst hv5
      have HN5 := hide hn5
      have hM5 := (zAa HX5).blk.only hO5 (by have := (zAa HX5).ne; rw [← zAa HM] at this; exact this)
      have hfin := ShAt.open_ (l := stays (s.opn.map aged)) (zAa HX5) hM5 hown5
      rw [zAa HCS5, zGb _ _ _ _ (by simp [Shf.cells])] at hfin
      have u3 := hM5.at_ (zAa HX5).has 3 rfl
      have f3 := hM5.frozen (o + 3)
      have HFIN := hide hfin
      have HO5 := hide hO5
      have HAT5 := hide hat5
      clear hown5 hO5 hat5 hM5 hfin hn5
      go_wp2_with fail
      go_ret2
      rw [zAa HF]
      have hob : ∀ x, (Value.slice A j c).ownBlock = some x → (Value.slice A s.opn.length c).ownBlock = some x := by rw [zAa HM]; exact fun x h => h
      refine ⟨.slice A5 n5 c5, rfl, zAa HFIN, ?_, fun k hk => .inl (hob k (zAa HAT5 k hk))⟩
      have h1 : Only (fun k => k = g ∨ Value.ownBlock (.slice A s.opn.length c) = some k) w wx := Only.of_below (zAa HBX) fun x hx hB => by omega
      have h2 := (((h1.trans (zAa HOA) (fun x _ h => .inr h)).trans (zAa HOR) (fun x _ h => .inl h)).trans (zAa HO5) (fun x _ h => .inr (hob x h)))
      exact Only.setCell h2 (fun _ => .inl rfl) _
end
section
open Go.RowKit
theorem yEj (base g o : Nat) (cs : Array Value) (s : Shf) (v : Value) (w : World) (od : Ordr) (K : Int) (h : ShAt w base g o cs s v) (hs : s.ok K) (hK : K ≤ 1000000) (hB : base ≤ w.heap.size) :
    Calls Tryz.prog 102 #[.pointer (some ⟨g, o, none⟩), od.val] w (zDy base g o cs v w (s.order od)) := by
 obtain ⟨k, n, life, id⟩ := od
 by_cases hk : k < 1 ∨ 7 < k
 ·exact zZu base g o cs s v w k n life id K h hs hK hB hk
 have hk' : k = 1 ∨ k = 2 ∨ k = 3 ∨ k = 4 ∨ k = 5 ∨ k = 6 ∨ k = 7 := by omega
 by_cases hn : n < 1 ∨ 1048576 < n
 ·rcases hk' with rfl | rfl | rfl | rfl | rfl | rfl | rfl
  ·exact yAr base g o cs s v w n life id K h hs hK hB hn
  ·exact yBi base g o cs s v w n life id K h hs hK hB hn
  ·exact yBp base g o cs s v w n life id K h hs hK hB hn
  ·exact order4 base g o cs s v w n life id K h hs hK hB
  ·exact order5 base g o cs s v w n life id K h hs hK hB
  ·exact yBg base g o cs s v w n life id K h hs hK hB hn
  ·exact order7 base g o cs s v w n life id K h hs hK hB
 have h1 : 1 ≤ n := by omega
 have h2 : n ≤ 1048576 := by omega
 rcases hk' with rfl | rfl | rfl | rfl | rfl | rfl | rfl
 ·by_cases hov : 1048576 < s.free + zAq s.opn + s.used + n
  ·exact zYe base g o cs s v w n life id K h hs hK hB h1 h2 hov
  ·exact yBx base g o cs s v w n life id K h hs hK hB h1 h2 (by omega)
 ·by_cases hls : s.free < n
  ·exact zWq base g o cs s v w n life id K h hs hK hB h1 h2 hls
  ·exact yDm base g o cs s v w n life id K h hs hK hB h1 h2 (by omega)
 ·exact order3 base g o cs s v w n life id K h hs hK hB h1 h2
 ·exact order4 base g o cs s v w n life id K h hs hK hB
 ·exact order5 base g o cs s v w n life id K h hs hK hB
 ·by_cases hls : s.used < n
  ·exact zWr base g o cs s v w n life id K h hs hK hB h1 h2 hls
  ·exact yDy base g o cs s v w n life id K h hs hK hB h1 h2 (by omega)
 ·exact order7 base g o cs s v w n life id K h hs hK hB
def DoPost (base g o : Nat) (cs : Array Value) (v : Value) (w : World) (r : Shf × Stk) (e : Ending) (w' : World) : Prop :=
 ∃ v', e = .returned r.2.val ∧ ShAt w' base g o (putAt cs o (r.1.cells v')) r.1 v' ∧ Only (fun k => k = g ∨ v.ownBlock = some k) w w' ∧ (∀ k, v'.ownBlock = some k → v.ownBlock = some k ∨ w.heap.size ≤ k)
set_option maxRecDepth 100000 in
set_option maxHeartbeats 2000000 in
theorem zWp (base g o : Nat) (cs : Array Value) (s : Shf) (v : Value) (w : World) (od : Ordr) (K : Int) (h : ShAt w base g o cs s v) (hs : s.ok K) (hK : K ≤ 1000000 - 1) (hB : base ≤ w.heap.size) :
    Calls Tryz.prog 79 #[.pointer (some ⟨g, o, none⟩), od.val] w (DoPost base g o cs v w (s.does od)) := by
 obtain ⟨wx, hwx⟩ : ∃ wx, wx = (w.alloc (.cells od.cells.toArray 130)).alloc (.cells #[.int .i64 0, .int .i64 0, .int .i64 0, .int .i64 0, .int .i64 0] 40) := ⟨_, rfl⟩
 have hbx : Below w.heap.size w wx := by rw [hwx]; exact ((Below.refl _ _).alloc (Nat.le_refl _) _).alloc (by simp) _
 have k0 : Blk wx w.heap.size 130 od.cells.toArray := by rw [hwx]; exact (Blk.new w 130 _).alloc _
 have k1 : Blk wx (w.heap.size + 1) 40 #[.int .i64 0, .int .i64 0, .int .i64 0, .int .i64 0, .int .i64 0] := by
  have h := Blk.new (w.alloc (.cells od.cells.toArray 130)) 40 #[.int .i64 0, .int .i64 0, .int .i64 0, .int .i64 0, .int .i64 0]
  rw [hwx]
  simpa using h
 have hx := h.calm hbx
 have HO := hide (yEj base g o cs s v wx od K hx hs (by omega) (Nat.le_trans hB hbx.size))
 have hgw : g < w.heap.size := h.blk.lt
 have hvw : ∀ k, v.ownBlock = some k → k < w.heap.size := fun k hk => (h.own.lt k hk).2
 have HVW := hide hvw
 have hs2 := zWa hs od
 have HS2 := hide hs2
 have hll := hs2.len
 have HDO := hide (show s.does od = ((s.order od).1, (s.order od).1.stock (s.order od).2.1 (s.order od).2.2) from rfl)
 obtain ⟨r, hr⟩ : ∃ r, r = s.order od := ⟨_, rfl⟩
 rw [← hr] at HO HS2 hll HDO
 obtain ⟨s2, rid, rc⟩ := r
 dsimp only at HS2 hll HDO
 have HK1 := hide k1
 have HBX := hide hbx
 obtain ⟨ok, on, ol, oi⟩ := od
 unfold Ordr.val at HO ⊢
 dsimp only at HO ⊢
 unfold Ordr.cells at k0 hwx
 dsimp only at k0 hwx
 have q0 := k0.cell 0
 have q1 := k0.cell 1
 have q2 := k0.cell 2
 have q3 := k0.cell 3
 rw [hwx] at q0 q1 q2 q3
 have HWX := hide hwx
 clear hx h hbx hs k0 k1 hwx hs2 hr hvw
 go_enter Tryz.func79, Tryz.ntmps79
 go_wp2_with fail
 rw [← zAa HWX]
 clear q0 q1 q2 q3
 refine (zAa HO).mono ?_
 rintro _ w2 ⟨v2, rfl, hx2, ho2, ha2⟩
 have hn1 : ∀ k, w.heap.size ≤ k → ¬ (k = g ∨ v.ownBlock = some k) := fun k hk hc => by
  rcases hc with rfl | hc
  ·omega
  ·have := zAa HVW k hc; omega
 have k2 := (zAa HK1).only ho2 (hn1 _ (by omega))
 have HST := hide (zLi base g o _ s2 v2 w2 hx2 (by omega) (fun x hx => by have := (zAa HS2).each x hx; omega))
 have HX2 := hide hx2
 have HO2 := hide ho2
 have HA2 := hide ha2
 have HK2 := hide k2
 unfold Shf.stock Stk.val at HST
 dsimp only at HST
 clear hx2 ho2 ha2 k2 hn1
 go_wp2_with fail
 refine (zAa HST).mono ?_
 rintro _ w3 ⟨rfl, hb3⟩
 have k3 := (zAa HK2).below hb3 (zAa HK2).lt
 have d0 := k3.cell 0
 have d1 := k3.cell 1
 have d2 := k3.cell 2
 have d3 := k3.cell 3
 have d4 := k3.cell 4
 have f0 := k3.frozen 0
 have f1 := k3.frozen 1
 have f2 := k3.frozen 2
 have f3 := k3.frozen 3
 have f4 := k3.frozen 4
 have hlt3 := k3.lt
 have HK3 := hide k3
 have key : ∀ WF, Only (fun k => k = w.heap.size + 1) w3 WF → DoPost base g o cs v w (s.does ⟨ok, on, ol, oi⟩) (.returned (s2.stock rid rc).val) WF := by
  intro WF hF
  rw [zAa HDO]
  have hg3 : w2.heap.size ≤ w3.heap.size := hb3.size
  have hx3 := (zAa HX2).calm hb3
  have hsx : wx.heap.size = w.heap.size + 2 := by rw [zAa HWX]; simp
  refine ⟨v2, rfl, hx3.only hF (by omega) (fun k hk e => ?_), ?_, fun k hk => ?_⟩
  ·rcases zAa HA2 k hk with h1 | h1
   ·have := zAa HVW k h1; omega
   ·omega
  ·have h1 : Only (fun k => k = g ∨ v.ownBlock = some k) w wx := Only.of_below (zAa HBX) fun x hx hB => by omega
   exact ((h1.trans (zAa HO2) (fun x _ h => h)).calm hb3).trans hF (fun x hx h => by omega)
  ·rcases zAa HA2 k hk with h1 | h1
   ·exact .inl h1
   ·exact .inr (by omega)
 have KEY := hide key
 clear hb3 k3 key
 go_wp2_with fail
 obtain ⟨w5, hw5⟩ : ∃ w5, w5 = ((((w3.setCell ⟨w.heap.size + 1, 0, none⟩ (.int .i64 rc)).setCell ⟨w.heap.size + 1, 1, none⟩ (.int .i64 rid)).setCell ⟨w.heap.size + 1, 2, none⟩ (.int .i64 s2.free)).setCell ⟨w.heap.size + 1, 3, none⟩ (.int .i64 (zAq s2.opn))).setCell ⟨w.heap.size + 1, 4, none⟩ (.int .i64 s2.used) := ⟨_, rfl⟩
 have hO5 : Only (fun k => k = w.heap.size + 1) w3 w5 := by rw [hw5]; exact zAg (zAg (zAg (zAg (zAg (Only.refl _ _) _ _) _ _) _ _) _ _) _ _
 have k5 : Blk w5 (w.heap.size + 1) 40 #[.int .i64 rc, .int .i64 rid, .int .i64 s2.free, .int .i64 (zAq s2.opn), .int .i64 s2.used] := by
  rw [hw5]
  exact (((((zAa HK3).set_ 0 _).set_ 1 _).set_ 2 _).set_ 3 _).set_ 4 _
 rw [← hw5]
 have k6 := k5.alloc (.cells #[.int .i64 rc, .int .i64 rid, .int .i64 s2.free, .int .i64 (zAq s2.opn), .int .i64 s2.used] 40)
 have z0 := k6.cell 0
 have z1 := k6.cell 1
 have z2 := k6.cell 2
 have z3 := k6.cell 3
 have z4 := k6.cell 4
 have HO5 := hide hO5
 clear hO5 k5 k6 hw5 d0 d1 d2 d3 d4 f0 f1 f2 f3 f4
 refine bodyPost_ret (v := (s2.stock rid rc).val) (by simp [results, Tryz.results79, go_sem, z0, z1, z2, z3, z4]; rfl) rfl (zAa KEY _ ((zAa HO5).alloc _))
end
end Go.Proofs.YtbolcebmbpepdaaGreatDoor
