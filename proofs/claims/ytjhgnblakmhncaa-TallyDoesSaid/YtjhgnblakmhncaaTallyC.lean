/- Contracts of tally.there, tally.left, tally.Left and of the reference's tallyLeft and TallyLeft; the walk of the law on them. Conditions: none beyond what each theorem states. -/
import Derived.Test.YtjhgnblakmhncaaTallyB
namespace Go.Proofs.Ytjhgnblakmhncaa
open Go.RowKit
set_option linter.unusedVariables false

def cellM (mv : List (List Int)) (i j : Nat) : Int := (mv.getD i []).getD j 0
def cellU (us : List Int) (j : Nat) : Int := us.getD j 0
def dsum (M : Nat → Nat → Int) (w : Nat) : Nat → Int
  | 0 => 0
  | k + 1 => dsum M w k + (M k w - M w k)
def csum (M : Nat → Nat → Int) (w : Nat) : Nat → Int
  | 0 => 0
  | k + 1 => csum M w k + M k w
def rsum (M : Nat → Nat → Int) (w : Nat) : Nat → Int
  | 0 => 0
  | k + 1 => rsum M w k + M w k
theorem dsum_eq (M : Nat → Nat → Int) (w : Nat) : ∀ k, dsum M w k = csum M w k - rsum M w k
  | 0 => rfl
  | k + 1 => by rw [dsum, csum, rsum, dsum_eq M w k]; omega
def leftV (mv : List (List Int)) (us : List Int) (w : Nat) : Int := cellM mv w w - cellU us w + dsum (cellM mv) w us.length
def leftP (mv : List (List Int)) (us : List Int) (who : Int) : Int × Int :=
  if tallyP mv us = false then (0, 4) else if 0 ≤ who ∧ who < us.length then (leftV mv us who.toNat, 0) else (0, 2)

def NumB (z : Int) : Prop := 0 ≤ z ∧ z ≤ 1048576
structure Grid (t : Tly) (w : World) (B n : Nat) (b o ub uo : Nat) (M : Nat → Nat → Int) (U : Nat → Int) : Prop where
  eA : t.A = some ⟨b, o, none⟩
  eN : t.n = n
  eU : t.u.A = some ⟨ub, uo, none⟩
  eUn : t.u.n = n
  row : ∀ i, i < n → ∃ rb ro rc, w.cell? ⟨b, o + i, none⟩ = some (.slice (some ⟨rb, ro, none⟩) n rc) ∧ n ≤ rc ∧ rc ≤ 9223372036854775807 ∧ rb < B ∧ ∀ j, j < n → w.cell? ⟨rb, ro + j, none⟩ = some (.int .i64 (M i j)) ∧ NumB (M i j)
  used : ∀ j, j < n → w.cell? ⟨ub, uo + j, none⟩ = some (.int .i64 (U j)) ∧ NumB (U j)
theorem nums_at {w : World} {B n : Nat} {A : Option Addr} {zs : List Int} (h : Reads w B 1 A n (zs.map (.int .i64))) (hn : 0 < n) (hl : zs.length = n) :
    ∃ b o, A = some ⟨b, o, none⟩ ∧ b < B ∧ ∀ j, j < n → w.cell? ⟨b, o + j, none⟩ = some (.int .i64 (zs.getD j 0)) := by
  obtain ⟨b, o, e, hb, hc⟩ := plain_addr h hn (by omega)
  refine ⟨b, o, e, hb, fun j hj => hc j _ ?_⟩
  have hj' : j < zs.length := by omega
  rw [List.getElem?_map, List.getElem?_eq_getElem hj', List.getD_eq_getElem?_getD, List.getElem?_eq_getElem hj']
  rfl
theorem grid_of {t : Tly} {w : World} {B : Nat} (ht : t.ok w B) (h : tallyP t.mv t.u.zs = true) : ∃ b o ub uo, Grid t w B t.u.zs.length b o ub uo (cellM t.mv) (cellU t.u.zs) := by
  obtain ⟨h1, h8, hu, hm, hr⟩ := tallyP_good h
  have hun : t.u.zs.length = t.u.n := ht.2.2.2.1
  have hrn : t.rs.length = t.n := ht.2.2.1.1
  have hmn : t.n = t.u.zs.length := by rw [← hm, Tly.mv, List.length_map, hrn]
  obtain ⟨b, o, eA, hb, hc⟩ := plain_addr ht.2.2.1.2.1 (by omega) (by omega)
  obtain ⟨ub, uo, eU, hub, huc⟩ := nums_at ht.2.2.2.2.2.2 (by omega) hun
  refine ⟨b, o, ub, uo, eA, hmn, eU, hun.symm, fun i hi => ?_, fun j hj => ⟨huc j (by omega), ?_⟩⟩
  · have hi' : i < t.rs.length := by omega
    have hg : t.rs[i]? = some (t.rs[i]'hi') := List.getElem?_eq_getElem hi'
    generalize t.rs[i]'hi' = r at hg
    have hok := ht.2.2.1.2.2 r (List.mem_of_getElem? hg)
    have hmem : r.zs ∈ t.mv := List.mem_map.2 ⟨r, List.mem_of_getElem? hg, rfl⟩
    have hrl := (hr _ hmem).1
    have hrN : r.n = t.u.zs.length := by rw [← hok.1]; exact hrl
    obtain ⟨rb, ro, eR, hrb, hrc⟩ := nums_at hok.2.2.2 (by omega) hok.1
    have hMi : ∀ j, cellM t.mv i j = r.zs.getD j 0 := fun j => by
      unfold cellM Tly.mv
      rw [List.getD_eq_getElem?_getD (l := List.map _ _), List.getElem?_map, hg]
      rfl
    refine ⟨rb, ro, r.c, ?_, by have := hok.2.1; omega, by have := hok.2.2.1; unfold maxLen at this; omega, hrb, fun j hj => ?_⟩
    · rw [hc i (.slice (some ⟨rb, ro, none⟩) t.u.zs.length r.c) (by rw [List.getElem?_map, hg, ← eR, ← hrN]; rfl)]
    · rw [hMi j]
      refine ⟨hrc j (by omega), ?_⟩
      have hj' : j < r.zs.length := by omega
      rw [List.getD_eq_getElem?_getD, List.getElem?_eq_getElem hj']
      exact (hr _ hmem).2 _ (List.getElem_mem hj')
  · unfold cellU
    rw [List.getD_eq_getElem?_getD, List.getElem?_eq_getElem hj]
    exact hu _ (List.getElem_mem hj)
theorem dsum_bound (M : Nat → Nat → Int) (w n : Nat) (hw : w < n) (h : ∀ i j, i < n → j < n → NumB (M i j)) : ∀ k, k ≤ n → -(1048576 * (k : Int)) ≤ dsum M w k ∧ dsum M w k ≤ 1048576 * k
  | 0, _ => by simp [dsum]
  | k + 1, hk => by
    have h1 := dsum_bound M w n hw h k (by omega)
    have h2 := h k w (by omega) hw
    have h3 := h w k hw (by omega)
    unfold NumB at h2 h3
    rw [dsum]
    omega
theorem csum_bound (M : Nat → Nat → Int) (w n : Nat) (hw : w < n) (h : ∀ i j, i < n → j < n → NumB (M i j)) : ∀ k, k ≤ n → 0 ≤ csum M w k ∧ csum M w k ≤ 1048576 * k
  | 0, _ => by simp [csum]
  | k + 1, hk => by
    have h1 := csum_bound M w n hw h k (by omega)
    have h2 := h k w (by omega) hw
    unfold NumB at h2
    rw [csum]
    omega
theorem rsum_bound (M : Nat → Nat → Int) (w n : Nat) (hw : w < n) (h : ∀ i j, i < n → j < n → NumB (M i j)) : ∀ k, k ≤ n → 0 ≤ rsum M w k ∧ rsum M w k ≤ 1048576 * k
  | 0, _ => by simp [rsum]
  | k + 1, hk => by
    have h1 := rsum_bound M w n hw h k (by omega)
    have h2 := h w k hw (by omega)
    unfold NumB at h2
    rw [rsum]
    omega

theorem there_any (t : Tly) (who : Int) (w : World) (hm : t.u.n ≤ 9223372036854775807) :
    Calls Try.prog 19 #[t.val, .int .i64 who] w fun e w' => e = .returned (.bool (decide (0 ≤ who) && decide (who < t.u.n))) ∧ Below w.heap.size w w' := by
  obtain ⟨A, m, c, rs, ⟨uA, n, uc, us⟩⟩ := t
  unfold Tly.val
  dsimp only at hm ⊢
  by_cases h0 : 0 ≤ who
  · go_enter Try.func19, Try.ntmps19
    go_wp2_with fail
    go_ret
    exact ⟨ret_bool (by simp [h0]), (Below.refl _ _).alloc (Nat.le_refl _) _⟩
  · have h0' : who < 0 := by omega
    have HF := hide (show (decide (0 ≤ who) && decide (who < (n : Int))) = false by simp [h0])
    clear h0
    go_enter Try.func19, Try.ntmps19
    go_wp2_with fail
    go_ret
    exact ⟨ret_bool (unhide HF).symm, (Below.refl _ _).alloc (Nat.le_refl _) _⟩

set_option maxHeartbeats 800000 in
theorem left_any (t : Tly) (B : Nat) (w : World) (k n : Nat) (b o ub uo : Nat) (M : Nat → Nat → Int) (U : Nat → Int) (hB : B ≤ w.heap.size) (hg : Grid t w B n b o ub uo M U) (hb : b < B) (hub : ub < B) (hk : k < n) (hn : n ≤ 8) (hc : t.n ≤ t.c) (hcm : t.c ≤ 9223372036854775807) (huc : t.u.n ≤ t.u.c) (hucm : t.u.c ≤ 9223372036854775807) :
    Calls Try.prog 20 #[t.val, .int .i64 k] w fun e w' => e = .returned (.int .i64 (M k k - U k + dsum M k n)) ∧ Below w.heap.size w w' := by
  obtain ⟨A, m, c, rs, ⟨uA, n', uc, us⟩⟩ := t
  obtain ⟨eA, eN, eU, eUn, hrow, hused⟩ := hg
  dsimp only at eA eN eU eUn hc hcm huc hucm
  subst eA eU
  obtain rfl : m = n := eN
  obtain rfl : m = n' := eUn.symm
  unfold Tly.val
  dsimp only
  obtain ⟨wx, hwx⟩ : ∃ wx, wx = w.alloc (.cells #[.slice (some ⟨b, o, none⟩) m c, .slice (some ⟨ub, uo, none⟩) m uc] 25) := ⟨_, rfl⟩
  have hbx : Below w.heap.size w wx := by rw [hwx]; exact (Below.refl _ _).alloc (Nat.le_refl _) _
  have hnew := Blk.new w 25 #[.slice (some ⟨b, o, none⟩) m c, .slice (some ⟨ub, uo, none⟩) m uc]
  rw [← hwx] at hnew
  have g0 : wx.cell? ⟨w.heap.size, 0, none⟩ = some (.slice (some ⟨b, o, none⟩) m c) := hnew.cell 0
  have g1 : wx.cell? ⟨w.heap.size, 1, none⟩ = some (.slice (some ⟨ub, uo, none⟩) m uc) := hnew.cell 1
  have HROW := hide (fun i hi => by
    obtain ⟨rb, ro, rc, h1, h2, h3, h4, h5⟩ := hrow i hi
    exact (⟨rb, ro, rc, (hbx.cell (by show b < _; omega)).trans h1, h2, h3, fun j hj => ⟨(hbx.cell (by show rb < _; omega)).trans (h5 j hj).1, (h5 j hj).2⟩⟩ :
      ∃ rb ro rc, wx.cell? ⟨b, o + i, none⟩ = some (.slice (some ⟨rb, ro, none⟩) m rc) ∧ m ≤ rc ∧ rc ≤ 9223372036854775807 ∧ ∀ j, j < m → wx.cell? ⟨rb, ro + j, none⟩ = some (.int .i64 (M i j)) ∧ NumB (M i j)))
  have hMB : ∀ i j, i < m → j < m → NumB (M i j) := fun i j hi hj => by
    obtain ⟨_, _, _, _, _, _, _, h⟩ := hrow i hi
    exact (h j hj).2
  have HDB := hide (dsum_bound M k m hk hMB)
  have hu1 : wx.cell? ⟨ub, uo + k, none⟩ = some (.int .i64 (U k)) := (hbx.cell (by show ub < _; omega)).trans (hused k hk).1
  have hU0 := (hused k hk).2.1
  have hU1 := (hused k hk).2.2
  have HBX := hide hbx
  have HWX := hide hwx
  clear hnew hwx hbx hrow hused hMB
  obtain ⟨kb, ko, kc, k1, k2, k3, k4⟩ := unhide HROW k hk
  have kk := (k4 k hk).1
  have hk0 := (k4 k hk).2.1
  have hk1 := (k4 k hk).2.2
  have HK4 := hide k4
  have hkm : (k : Int) < (m : Int) := by omega
  clear k4
  go_enter Try.func20, Try.ntmps20
  go_wp2_with fail
  rw [← unhide HWX]
  go_quiet (fail)
  go_wp2_with fail
  go_loopw [5, 24] (fun s i wr => ∃ (j q : Nat), j ≤ m ∧ i = .int .i64 j ∧ s = .int .i64 (M k k - U k + dsum M k j) ∧ wr = wx.drewN q) (fun _ i _ => m - (intOf i).toNat)
  case atStart => exact ⟨0, _, Nat.zero_le _, rfl, by simp [dsum], rfl⟩
  case round =>
    obtain ⟨j, q, hj, rfl, rfl, rfl⟩ := hrel
    by_cases hlt : j < m
    · obtain ⟨rb, ro, rc, r1, r2, r3, r4⟩ := unhide HROW j hlt
      have hr := (r4 k hk).1
      have hr0 := (r4 k hk).2.1
      have hr1 := (r4 k hk).2.2
      have hq := (unhide HK4 j hlt).1
      have hq0 := (unhide HK4 j hlt).2.1
      have hq1 := (unhide HK4 j hlt).2.2
      have hd0 := (unhide HDB j hj).1
      have hd1 := (unhide HDB j hj).2
      have hjm : (j : Int) < (m : Int) := by omega
      have hs : dsum M k (j + 1) = dsum M k j + (M j k - M k j) := rfl
      have HS := hide hs
      generalize dsum M k j = d at hd0 hd1 HS ⊢
      clear r4 hs
      by_cases he : j = k
      · subst he
        have HS2 := hide (show dsum M j (j + 1) = d by rw [unhide HS]; omega)
        have e1 : (((j : Nat) : Int) != (j : Nat)) = false := by simp
        clear hq hq0 hq1 hr hr0 hr1
        go_wp2_with fail
        go_roundw
        case rel => exact ⟨j + 1, q, by omega, by go_num, by rw [unhide HS2], rfl⟩
        case measure => simp [intOf]; omega
      · have e1 : (((j : Nat) : Int) != (k : Nat)) = true := by simp; omega
        have e2 : (j != k) = true := by simp; omega
        clear he
        go_wp2_with fail
        go_quiet (fail)
        go_wp2_with fail
        go_roundw
        case rel => exact ⟨j + 1, _, by omega, by go_num, by rw [unhide HS]; go_num, rfl⟩
        case measure => simp [intOf]; omega
    · obtain rfl : j = m := by omega
      have hd0 := (unhide HDB j hj).1
      have hd1 := (unhide HDB j hj).2
      go_wp2_with fail
      go_ret
      exact ⟨ret_int rfl, below_drewN (unhide HBX) _⟩

theorem reads_cell {w : World} {B n : Nat} {b o : Nat} {xs : List Value} (h : Reads w B 1 (some ⟨b, o, none⟩) n xs) (hn : 0 < n) : b < B := by
  obtain ⟨b', o', e, hb, _⟩ := plain_addr h hn (by omega)
  injection e with e
  injection e with e1 e2
  subst e1
  exact hb

set_option maxHeartbeats 800000 in
theorem leftRef_any (t : Tly) (B : Nat) (w : World) (k n : Nat) (b o ub uo : Nat) (M : Nat → Nat → Int) (U : Nat → Int) (hB : B ≤ w.heap.size) (hg : Grid t w B n b o ub uo M U) (hb : b < B) (hub : ub < B) (hk : k < n) (hn : n ≤ 8) (hc : t.n ≤ t.c) (hcm : t.c ≤ 9223372036854775807) (huc : t.u.n ≤ t.u.c) (hucm : t.u.c ≤ 9223372036854775807) :
    Calls Try.prog 21 #[t.val, .int .i64 k] w fun e w' => e = .returned (.int .i64 (M k k - U k + dsum M k n)) ∧ Below w.heap.size w w' := by
  obtain ⟨A, m, c, rs, ⟨uA, n', uc, us⟩⟩ := t
  obtain ⟨eA, eN, eU, eUn, hrow, hused⟩ := hg
  dsimp only at eA eN eU eUn hc hcm huc hucm
  subst eA eU
  obtain rfl : m = n := eN
  obtain rfl : m = n' := eUn.symm
  unfold Tly.val
  dsimp only
  obtain ⟨wx, hwx⟩ : ∃ wx, wx = w.alloc (.cells #[.slice (some ⟨b, o, none⟩) m c, .slice (some ⟨ub, uo, none⟩) m uc] 25) := ⟨_, rfl⟩
  have hbx : Below w.heap.size w wx := by rw [hwx]; exact (Below.refl _ _).alloc (Nat.le_refl _) _
  have hnew := Blk.new w 25 #[.slice (some ⟨b, o, none⟩) m c, .slice (some ⟨ub, uo, none⟩) m uc]
  rw [← hwx] at hnew
  have g0 : wx.cell? ⟨w.heap.size, 0, none⟩ = some (.slice (some ⟨b, o, none⟩) m c) := hnew.cell 0
  have g1 : wx.cell? ⟨w.heap.size, 1, none⟩ = some (.slice (some ⟨ub, uo, none⟩) m uc) := hnew.cell 1
  have HROW := hide (fun i hi => by
    obtain ⟨rb, ro, rc, h1, h2, h3, h4, h5⟩ := hrow i hi
    exact (⟨rb, ro, rc, (hbx.cell (by show b < _; omega)).trans h1, h2, h3, fun j hj => ⟨(hbx.cell (by show rb < _; omega)).trans (h5 j hj).1, (h5 j hj).2⟩⟩ :
      ∃ rb ro rc, wx.cell? ⟨b, o + i, none⟩ = some (.slice (some ⟨rb, ro, none⟩) m rc) ∧ m ≤ rc ∧ rc ≤ 9223372036854775807 ∧ ∀ j, j < m → wx.cell? ⟨rb, ro + j, none⟩ = some (.int .i64 (M i j)) ∧ NumB (M i j)))
  have hMB : ∀ i j, i < m → j < m → NumB (M i j) := fun i j hi hj => by
    obtain ⟨_, _, _, _, _, _, _, h⟩ := hrow i hi
    exact (h j hj).2
  have HCB := hide (csum_bound M k m hk hMB)
  have HRB := hide (rsum_bound M k m hk hMB)
  have HDS := hide (dsum_eq M k m)
  have hu1 : wx.cell? ⟨ub, uo + k, none⟩ = some (.int .i64 (U k)) := (hbx.cell (by show ub < _; omega)).trans (hused k hk).1
  have hU0 := (hused k hk).2.1
  have hU1 := (hused k hk).2.2
  have HBX := hide hbx
  have HWX := hide hwx
  clear hnew hwx hbx hrow hused hMB
  obtain ⟨kb, ko, kc, k1, k2, k3, k4⟩ := unhide HROW k hk
  have kk := (k4 k hk).1
  have hk0 := (k4 k hk).2.1
  have hk1 := (k4 k hk).2.2
  have HK4 := hide k4
  have hkm : (k : Int) < (m : Int) := by omega
  clear k4
  go_enter Try.func21, Try.ntmps21
  go_wp2_with fail
  rw [← unhide HWX]
  go_loop [5, 6, 11] (fun s r i => ∃ (j : Nat), j ≤ m ∧ i = .int .i64 j ∧ s = .int .i64 (csum M k j) ∧ r = .int .i64 (rsum M k j)) (fun _ _ i => m - (intOf i).toNat)
  case atStart => exact ⟨0, Nat.zero_le _, rfl, rfl, rfl⟩
  case round =>
    obtain ⟨j, hj, rfl, rfl, rfl⟩ := hrel
    by_cases hlt : j < m
    · obtain ⟨rb, ro, rc, r1, r2, r3, r4⟩ := unhide HROW j hlt
      have hr := (r4 k hk).1
      have hr0 := (r4 k hk).2.1
      have hr1 := (r4 k hk).2.2
      have hq := (unhide HK4 j hlt).1
      have hq0 := (unhide HK4 j hlt).2.1
      have hq1 := (unhide HK4 j hlt).2.2
      have hd0 := (unhide HCB j hj).1
      have hd1 := (unhide HCB j hj).2
      have he0 := (unhide HRB j hj).1
      have he1 := (unhide HRB j hj).2
      have hjm : (j : Int) < (m : Int) := by omega
      have HS1 := hide (show csum M k (j + 1) = csum M k j + M j k from rfl)
      have HS2 := hide (show rsum M k (j + 1) = rsum M k j + M k j from rfl)
      generalize csum M k j = d at hd0 hd1 HS1 ⊢
      generalize rsum M k j = r at he0 he1 HS2 ⊢
      clear r4
      go_wp2_with fail
      go_round
      case rel => exact ⟨j + 1, by omega, by go_num, by rw [unhide HS1], by rw [unhide HS2]⟩
      case measure => simp [intOf]; omega
    · obtain rfl : j = m := by omega
      have hd0 := (unhide HCB j hj).1
      have hd1 := (unhide HCB j hj).2
      have he0 := (unhide HRB j hj).1
      have he1 := (unhide HRB j hj).2
      generalize csum M k j = d at hd0 hd1 HDS ⊢
      generalize rsum M k j = r at he0 he1 HDS ⊢
      go_wp2_with fail
      go_quiet (fail)
      go_wp2_with fail
      go_ret
      exact ⟨ret_int (by rw [unhide HDS]; omega), below_drewN (unhide HBX) _⟩

theorem grid_below {t : Tly} {w w' : World} {B n b o ub uo : Nat} {M : Nat → Nat → Int} {U : Nat → Int} (h : Grid t w B n b o ub uo M U) (hb : b < B) (hub : ub < B) (hw : Below B w w') : Grid t w' B n b o ub uo M U :=
  ⟨h.eA, h.eN, h.eU, h.eUn, fun i hi => by
    obtain ⟨rb, ro, rc, h1, h2, h3, h4, h5⟩ := h.row i hi
    exact ⟨rb, ro, rc, (hw.cell hb).trans h1, h2, h3, h4, fun j hj => ⟨(hw.cell h4).trans (h5 j hj).1, (h5 j hj).2⟩⟩,
   fun j hj => ⟨(hw.cell hub).trans (h.used j hj).1, (h.used j hj).2⟩⟩
/-- what a good tally's cells are, in whatever later world -/
theorem tly_grid {t : Tly} {w : World} {B : Nat} (ht : t.ok w B) (h : tallyP t.mv t.u.zs = true) :
    ∃ b o ub uo, b < B ∧ ub < B ∧ t.u.zs.length ≤ 8 ∧ t.n ≤ t.c ∧ t.c ≤ 9223372036854775807 ∧ t.u.n ≤ t.u.c ∧ t.u.c ≤ 9223372036854775807 ∧ t.u.n = t.u.zs.length ∧ ∀ W, Below B w W → Grid t W B t.u.zs.length b o ub uo (cellM t.mv) (cellU t.u.zs) := by
  obtain ⟨b, o, ub, uo, hg⟩ := grid_of ht h
  have h1 := (tallyP_good h).1
  have hb : b < B := by
    have := ht.2.2.1.2.1
    rw [hg.eA] at this
    exact reads_cell this (by rw [hg.eN]; exact h1)
  have hub : ub < B := by
    have := ht.2.2.2.2.2.2
    rw [hg.eU] at this
    exact reads_cell this (by rw [hg.eUn]; exact h1)
  have hcm := ht.2.1
  have hum := ht.2.2.2.2.2.1
  unfold maxLen at hcm hum
  exact ⟨b, o, ub, uo, hb, hub, (tallyP_good h).2.1, ht.1, by omega, ht.2.2.2.2.1, by omega, hg.eUn, fun W hW => grid_below hg hb hub hW⟩

theorem tallyLeft_any (t : Tly) (who : Int) (B : Nat) (w : World) (ht : t.ok w B) (hB : B ≤ w.heap.size) :
    Calls Try.prog 9 #[t.val, .int .i64 who] w fun e w' => e = .returned (.tuple #[.int .i64 (leftP t.mv t.u.zs who).1, .int .i64 (leftP t.mv t.u.zs who).2]) ∧ Below w.heap.size w w' := by
  have hun : t.u.n ≤ 9223372036854775807 := by have h1 := ht.2.2.2.2.1; have h2 := ht.2.2.2.2.2.1; unfold maxLen at h2; omega
  have H1 := hide (fun W (hW : Below w.heap.size w W) => tallyMay_any t B W (ht.below (hW.mono hB)) (Nat.le_trans hB hW.size))
  have H2 := hide (fun W => there_any t who W hun)
  have H3 := hide (fun (h : tallyP t.mv t.u.zs = true) (k : Nat) (hk : k < t.u.zs.length) W (hW : Below w.heap.size w W) => by
    obtain ⟨b, o, ub, uo, h1, h2, h3, h4, h5, h6, h7, _, h8⟩ := tly_grid ht h
    exact left_any t B W k _ b o ub uo _ _ (Nat.le_trans hB hW.size) (h8 W (hW.mono hB)) h1 h2 hk h3 h4 h5 h6 h7)
  have HUN := hide (show t.u.zs.length = t.u.n from ht.2.2.2.1)
  obtain ⟨A, m, c, rs, ⟨uA, n, uc, us⟩⟩ := t
  have HT := hide ht
  unfold Tly.val at H1 H2 H3 ⊢
  dsimp only at hun H1 H2 H3 HUN ⊢
  obtain ⟨wx, hwx⟩ : ∃ wx, wx = w.alloc (.cells #[.slice A m c, .slice uA n uc] 25) := ⟨_, rfl⟩
  have hbx : Below w.heap.size w wx := by rw [hwx]; exact (Below.refl _ _).alloc (Nat.le_refl _) _
  have hnew := Blk.new w 25 #[.slice A m c, .slice uA n uc]
  rw [← hwx] at hnew
  have g0 : wx.cell? ⟨w.heap.size, 0, none⟩ = some (.slice A m c) := hnew.cell 0
  have g1 : wx.cell? ⟨w.heap.size, 1, none⟩ = some (.slice uA n uc) := hnew.cell 1
  have hsx : w.heap.size < wx.heap.size := by rw [hwx]; simp
  have HBX := hide hbx
  have HG0 := hide g0
  have HG1 := hide g1
  have HWX := hide hwx
  clear hnew hwx hbx ht
  generalize hmv : Tly.mv ⟨A, m, c, rs, ⟨uA, n, uc, us⟩⟩ = mv at *
  cases htp : tallyP mv us with
  | false =>
    have HF := hide (show leftP mv us who = (0, 4) by simp [leftP, htp])
    have H1' := hide (unhide H1 wx (unhide HBX))
    rw [htp] at H1'
    clear htp hmv H1
    go_enter Try.func9, Try.ntmps9
    go_wp2_with fail
    rw [← unhide HWX]
    refine (unhide H1').mono ?_
    rintro _ w2 ⟨rfl, hb2⟩
    have HB2 := hide ((unhide HBX).trans (hb2.mono (unhide HBX).size))
    clear hb2
    go_wp2_with fail
    go_ret2
    exact ⟨by rw [unhide HF]; rfl, unhide HB2⟩
  | true =>
    have H1' := hide (unhide H1 wx (unhide HBX))
    rw [htp] at H1'
    have H3' := hide (unhide H3 htp)
    by_cases hw : 0 ≤ who ∧ who < (n : Int)
    · obtain ⟨k, rfl⟩ := Int.eq_ofNat_of_zero_le hw.1
      have HF := hide (show leftP mv us k = (leftV mv us k, 0) by
        rw [leftP, htp, if_neg (by simp), if_pos ⟨hw.1, by rw [unhide HUN]; exact hw.2⟩]; rfl)
      have hkn : k < n := by omega
      have H3'' := hide (unhide H3' k (by rw [unhide HUN]; exact hkn))
      have H2' := hide (fun W => (unhide H2 W).mono fun e w' he => (show e = .returned (.bool true) ∧ Below W.heap.size W w' from ⟨by rw [he.1]; simp [hkn], he.2⟩))
      clear htp hmv H1 H2 H3 H3' hw
      go_enter Try.func9, Try.ntmps9
      go_wp2_with fail
      rw [← unhide HWX]
      refine (unhide H1').mono ?_
      rintro _ w2 ⟨rfl, hb2⟩
      have c0 : w2.cell? ⟨w.heap.size, 0, none⟩ = some (.slice A m c) := (hb2.cell hsx).trans (unhide HG0)
      have c1 : w2.cell? ⟨w.heap.size, 1, none⟩ = some (.slice uA n uc) := (hb2.cell hsx).trans (unhide HG1)
      have HB2 := hide ((unhide HBX).trans (hb2.mono (unhide HBX).size))
      have hs2 := hb2.size
      clear hb2
      go_wp2_with fail
      refine (unhide H2' w2).mono ?_
      rintro _ w3 ⟨rfl, hb3⟩
      have d0 : w3.cell? ⟨w.heap.size, 0, none⟩ = some (.slice A m c) := (hb3.cell (by show w.heap.size < _; omega)).trans c0
      have d1 : w3.cell? ⟨w.heap.size, 1, none⟩ = some (.slice uA n uc) := (hb3.cell (by show w.heap.size < _; omega)).trans c1
      have HB3 := hide ((unhide HB2).trans (hb3.mono (unhide HB2).size))
      clear hb3
      go_wp2_with fail
      refine (unhide H3'' w3 (unhide HB3)).mono ?_
      rintro _ w4 ⟨rfl, hb4⟩
      have HB4 := hide ((unhide HB3).trans (hb4.mono (unhide HB3).size))
      clear hb4
      go_wp2_with fail
      go_ret2
      exact ⟨by rw [unhide HF]; rfl, unhide HB4⟩
    · have HF := hide (show leftP mv us who = (0, 2) by
        rw [leftP, htp, if_neg (by simp), if_neg (by rw [unhide HUN]; exact hw)])
      have H2' := hide (fun W => (unhide H2 W).mono fun e w' he => (show e = .returned (.bool false) ∧ Below W.heap.size W w' from ⟨by rw [he.1]; simp; omega, he.2⟩))
      clear htp hmv H1 H2 H3 H3' hw
      go_enter Try.func9, Try.ntmps9
      go_wp2_with fail
      rw [← unhide HWX]
      refine (unhide H1').mono ?_
      rintro _ w2 ⟨rfl, hb2⟩
      have c0 : w2.cell? ⟨w.heap.size, 0, none⟩ = some (.slice A m c) := (hb2.cell hsx).trans (unhide HG0)
      have c1 : w2.cell? ⟨w.heap.size, 1, none⟩ = some (.slice uA n uc) := (hb2.cell hsx).trans (unhide HG1)
      have HB2 := hide ((unhide HBX).trans (hb2.mono (unhide HBX).size))
      have hs2 := hb2.size
      clear hb2
      go_wp2_with fail
      refine (unhide H2' w2).mono ?_
      rintro _ w3 ⟨rfl, hb3⟩
      have HB3 := hide ((unhide HB2).trans (hb3.mono (unhide HB2).size))
      clear hb3
      go_wp2_with fail
      go_ret2
      exact ⟨by rw [unhide HF]; rfl, unhide HB3⟩
end Go.Proofs.Ytjhgnblakmhncaa
