/- Contracts and plain facts, set together by program out of smaller texts. Conditions: none beyond what each theorem states. -/
import Derived.Laws.CopyOwn
import Derived.Test.YtbolcebmbpepdaaGreatDoorM09
import Derived.Test.YtbolcebmbpepdaaGreatDoorM06
namespace Go.Proofs.YtbolcebmbpepdaaGreatDoor
set_option linter.unusedVariables false
section
open Go.RowKit
theorem yCv (n : Nat) (hn : n ≤ 32) (w : World) :
    Calls Tryz.prog 145 #[.int .u64 1, .int .u64 n] w fun e w' => e = .returned (.tuple #[.int .u64 0, .int .u64 n]) ∧ w = w' := by
 have h1 : bits .and .u64 (n : Int) 4294967295 = n := by
  rw [show (4294967295 : Int) = ((4294967295 : Nat) : Int) from rfl, u64_and_nat n 4294967295 (by omega) (by omega)]
  rw [show (4294967295 : Nat) = 2 ^ 32 - 1 from rfl, Nat.and_two_pow_sub_one_eq_mod, Nat.mod_eq_of_lt (by omega)]
 have h0 : bits .and .u64 1 4294967295 = 1 := by
  rw [show (4294967295 : Int) = ((4294967295 : Nat) : Int) from rfl, show (1 : Int) = ((1 : Nat) : Int) from rfl, u64_and_nat 1 4294967295 (by omega) (by omega)]
  rw [show (4294967295 : Nat) = 2 ^ 32 - 1 from rfl, Nat.and_two_pow_sub_one_eq_mod, Nat.mod_eq_of_lt (by omega)]
 have h6 : bits .and .u64 0 4294967295 = 0 := by
  rw [show (4294967295 : Int) = ((4294967295 : Nat) : Int) from rfl, show (0 : Int) = ((0 : Nat) : Int) from rfl, u64_and_nat 0 4294967295 (by omega) (by omega)]
  rw [show (4294967295 : Nat) = 2 ^ 32 - 1 from rfl, Nat.and_two_pow_sub_one_eq_mod, Nat.mod_eq_of_lt (by omega)]
 have h5 : IntKind.u64.wrap (n : Int) = n := by simp [IntKind.wrap, IntKind.bits, IntKind.signed]; omega
 have h7 : IntKind.u64.wrap 0 = 0 := by simp [IntKind.wrap, IntKind.bits, IntKind.signed]
 have h2 : (n : Int) / 2 ^ 32 = 0 := by omega
 have h3 : (n : Int) / 4294967296 = 0 := by omega
 have h4 : n / 4294967296 = 0 := by omega
 go_enter Tryz.func145, Tryz.ntmps145
 go_wp2_with fail
 go_ret2
 exact ⟨rfl, rfl⟩
theorem mul_one (n : Nat) (hn : n ≤ 32) (w : World) :
    Calls Tryz.prog 132 #[.int .u64 1, .int .u64 n] w fun e w' => e = .returned (.tuple #[.int .u64 0, .int .u64 n]) ∧ w = w' := by
 have H := hide (yCv n hn w)
 go_enter Tryz.func132, Tryz.ntmps132
 go_wp2_with fail
 refine (zAa H).mono ?_
 rintro _ _ ⟨rfl, rfl⟩
 go_wp2_with fail
 go_ret2
 exact ⟨rfl, rfl⟩
theorem zQi (v : Int) (n k m : Nat) (hk : k + m ≤ n) : splice ((List.replicate k v ++ List.replicate (n - k) 0).map (Value.int .i64)) k ((List.replicate m v).map (Value.int .i64)) = (List.replicate (k + m) v ++ List.replicate (n - (k + m)) 0).map (Value.int .i64) := by
 have e : splice (List.replicate k v ++ List.replicate (n - k) 0) k (List.replicate m v) = List.replicate (k + m) v ++ List.replicate (n - (k + m)) 0 := by
  unfold splice
  have e1 : (List.replicate k v ++ List.replicate (n - k) (0 : Int)).take k = List.replicate k v := by
   rw [List.take_append_of_le_length (by simp), List.take_of_length_le (by simp)]
  have e2 : (List.replicate k v ++ List.replicate (n - k) (0 : Int)).drop (k + (List.replicate m v).length) = List.replicate (n - (k + m)) 0 := by
   rw [List.length_replicate, List.drop_append, List.length_replicate, show k + m - k = m by omega, List.drop_of_length_le (by simp), List.nil_append, List.drop_replicate]
   congr 1
   omega
  rw [e1, e2, ← List.append_assoc, List.replicate_append_replicate]
 rw [← e]
 unfold splice
 simp [List.map_drop]
def RowN (w : World) (G n : Nat) (v : Int) (k : Nat) : Prop := w.heap[G]? = some (.cells ((List.replicate k v ++ List.replicate (n - k) 0).map (Value.int .i64)).toArray 3 (0, 0))
theorem RowN.cell {w : World} {G n : Nat} {v : Int} {k : Nat} (h : RowN w G n v k) {j : Nat} (hj : j < k) : w.cell? ⟨G, j, none⟩ = some (.int .i64 v) := by
 have h2 : IRow w G (List.replicate k v ++ List.replicate (n - k) 0) [] := by unfold IRow Blk; rw [List.append_nil]; exact h
 refine h2.cell ?_
 rw [List.getElem?_append_left (by simpa using hj), List.getElem?_replicate, if_pos hj]
theorem yAw {w : World} {G n : Nat} {v : Int} {k m : Nat} (h : RowN w G n v k) (hm : m ≤ k) : ∀ (j : Nat) (u : Value), ((List.replicate m v).map (Value.int .i64))[j]? = some u → w.cell? ((⟨G, 0, none⟩ : Addr).add j) = some u := by
 intro j u hu
 have hj : j < m := by
  rcases Nat.lt_or_ge j m with h1 | h1
  ·exact h1
  ·rw [List.getElem?_eq_none (by simpa using h1)] at hu; cases hu
 have e : (⟨G, 0, none⟩ : Addr).add j = ⟨G, j, none⟩ := by unfold Addr.add; split <;> simp_all
 rw [List.getElem?_map, List.getElem?_replicate, if_pos hj] at hu
 injection hu with hu
 rw [e, h.cell (by omega), ← hu]
set_option maxRecDepth 100000 in
set_option maxHeartbeats 800000 in
theorem zMd (v : Int) (n g0 c0 : Nat) (w : World) (h1 : 1 ≤ n) (hn : n ≤ 32) (hg : g0 < w.heap.size) (hv : w.cell? ⟨g0, 0, none⟩ = some (.int .i64 v)) :
    Calls Tryz.prog 111 #[.slice (some ⟨g0, 0, none⟩) 1 c0, .int .i64 n] w fun e w' => ∃ u, e = .returned u ∧ w'.ownsRow w.heap.size 3 1 u n ((List.replicate n v).map (.int .i64)) ∧ Below w.heap.size w w' := by
 obtain ⟨i0, hi, hz0, hz1, hz2⟩ := zMe
 have hmk := fun W => zDn (P := Tryz.prog) 22 3 i0 _ Tryz.underlying22 hi hz0 .i64 .i64 n n (Nat.le_refl _) (by rw [hz2]; omega) (by omega) W
 rw [hz1] at hmk
 have H := hide (mul_one n hn w)
 have HROW := hide (show RowN (w.alloc (.cells (madeCells #[.int .i64 0] (n * 1)) 3)) w.heap.size n v 0 by
  unfold RowN
  have e : ((List.replicate 0 v ++ List.replicate (n - 0) (0 : Int)).map (Value.int .i64)).toArray = madeCells #[.int .i64 0] (n * 1) := by
   rw [← Array.toList_inj, toList_madeCells_one]; simp
  rw [e]
  exact Blk.new w 3 _)
 have HB0 := hide ((Below.refl w.heap.size w).alloc (Nat.le_refl _) (.cells (madeCells #[.int .i64 0] (n * 1)) 3))
 have HV := hide (show (w.alloc (.cells (madeCells #[.int .i64 0] (n * 1)) 3)).cell? ⟨g0, 0, none⟩ = some (.int .i64 v) from (World.cell?_alloc_lt w _ ⟨g0, 0, none⟩ hg).trans hv)
 have hsz : (Tryz.prog.info? 3).map (·.size) = some 1 := by kernel_rfl
 rw [Nat.mul_one] at hmk HROW HB0 HV
 have HSZ := hide hsz
 clear hsz hv
 go_enter Tryz.func111, Tryz.ntmps111
 go_wp2_with fail
 refine (zAa H).mono ?_
 rintro _ _ ⟨rfl, rfl⟩
 have HSRC := hide (show ∀ (j : Nat) (u : Value), ((List.replicate 1 v).map (Value.int .i64))[j]? = some u → (w.alloc (.cells (madeCells #[.int .i64 0] n) 3)).cell? ((⟨g0, 0, none⟩ : Addr).add j) = some u from fun j u hu => by
  cases j with
  | zero => simp at hu; rw [← hu]; exact zAa HV
  | succ j => simp at hu)
 have hl1 : ((List.replicate 1 v).map (Value.int .i64)).length = Nat.min 1 n := by rw [List.length_map, List.length_replicate]; exact (Nat.min_eq_left h1).symm
 have HL1 := hide hl1
 have hl2 : 0 + ((List.replicate 1 v).map (Value.int .i64)).length ≤ ((List.replicate 0 v ++ List.replicate (n - 0) 0).map (Value.int .i64)).length := by simp; omega
 have HL2 := hide hl2
 have HONE := hide (zPe .i64 (List.replicate 1 v))
 clear hl1 hl2
 go_wp2_with (first
  | ((refine wpList_copy_splice rfl (.tmp 31) (.tmp 32) 22 22 rfl 3 Tryz.underlying22 (zAa HSZ) (some ⟨w.heap.size, 0, none⟩) (some ⟨g0, 0, none⟩) n n 1 c0 rfl rfl w.heap.size 0 _ 3 (zAa HROW) ((List.replicate 1 v).map (Value.int .i64)) (zAa HL1) (fun _ => ⟨rfl, _, rfl, zAa HSRC⟩) (zAa HL2) (zAa HONE) w.heap.size w (zAa HB0) (Nat.le_refl _) ?_); intro w4 hg4 hb4))
 have HR1 := hide (show RowN w4 w.heap.size n v 1 by
  have h := zAa hg4
  have e := zQi v n 0 1 (by omega)
  unfold RowN
  rw [e] at h
  exact h)
 have HB4 := hide hb4
 clear hg4 hb4 HROW HB0 HV HSRC HL1 HL2 HONE hmk
 generalize hG : w.heap.size = G at *
 have HG := hide hG
 clear hG
 go_loopw [8] (fun x wr => ∃ (k : Nat), 1 ≤ k ∧ k ≤ n ∧ x = .int .i64 k ∧ Hid (RowN wr G n v k) ∧ Below G w wr) (fun x _ => n - (intOf x).toNat)
 case atStart => exact ⟨1, Nat.le_refl _, h1, rfl, HR1, zAa HB4⟩
 case round =>
  obtain ⟨k, hk1, hkn, rfl, HX, hb⟩ := hrel
  by_cases hlt : k < n
  ·have hb1 : (0 : Int) ≤ (k : Int) := by omega
   have hb2 : (k : Int) ≤ (n : Int) := by omega
   have HB := hide hb
   obtain ⟨m, hm⟩ : ∃ m, m = Nat.min k (n - k) := ⟨_, rfl⟩
   have hm1 : m ≤ k := by rw [hm]; exact Nat.min_le_left _ _
   have hm2 : m ≤ n - k := by rw [hm]; exact Nat.min_le_right _ _
   have hm3 : 1 ≤ m := by rw [hm]; exact Nat.le_min.2 ⟨hk1, by omega⟩
   have HM := hide (show ((List.replicate m v).map (Value.int .i64)).length = Nat.min k (n - k) by rw [List.length_map, List.length_replicate]; exact hm)
   have HFIT := hide (show k + ((List.replicate m v).map (Value.int .i64)).length ≤ ((List.replicate k v ++ List.replicate (n - k) 0).map (Value.int .i64)).length by simp; omega)
   have HONE := hide (zPe .i64 (List.replicate m v))
   have HSRC := hide (show ∀ (j : Nat) (u : Value), ((List.replicate m v).map (Value.int .i64))[j]? = some u → wr.drew.cell? ((⟨G, 0, none⟩ : Addr).add j) = some u from yAw (zAa HX) hm1)
   have HPOS := hide (show 0 < ((List.replicate m v).map (Value.int .i64)).length → (some ⟨G, k, none⟩ : Option Addr) = some ⟨G, k, none⟩ ∧ ∃ ad, (some ⟨G, 0, none⟩ : Option Addr) = some ad ∧ ∀ (j : Nat) (u : Value), ((List.replicate m v).map (Value.int .i64))[j]? = some u → wr.drew.cell? (ad.add j) = some u from fun _ => ⟨rfl, _, rfl, zAa HSRC⟩)
   have HXD := hide (show wr.drew.heap[G]? = some (.cells ((List.replicate k v ++ List.replicate (n - k) 0).map (Value.int .i64)).toArray 3 (0, 0)) by have h := zAa HX; unfold RowN at h; exact h)
   have HBD := hide (show Below G w wr.drew from hb.drew)
   have hnk : ¬ n = k := by omega
   obtain ⟨w5, HX5, HB5, hcp⟩ : ∃ w5, Hid (RowN w5 G n v (k + m)) ∧ Hid (Below G w w5) ∧ (Builtin.copy_ #[22, 22] 3 #[.slice (some ⟨G, k, none⟩) (n - k) (n - k), .slice (some ⟨G, 0, none⟩) k n]).run Tryz.prog wr.drew = .ok (.int .i64 m) w5 := by
    have hrun := run_copy_row (P := Tryz.prog) wr.drew 22 22 3 3 G k (n - k) (n - k) ⟨G, 0, none⟩ k n ((List.replicate k v ++ List.replicate (n - k) 0).map (Value.int .i64)).toArray 3 ((List.replicate m v).map (Value.int .i64)) Tryz.underlying22 (zAa HSZ) (zAa HXD) (zAa HM) (zAa HSRC) (by have h := zAa HFIT; simpa using h) (zAa HONE)
    rw [List.length_map, List.length_replicate] at hrun
    refine ⟨_, hide ?_, hide (below_setRow (zAa HBD) (Nat.le_refl _) _), hrun⟩
    have h := setRow_heap wr.drew G _ (((List.replicate k v ++ List.replicate (n - k) 0).map (Value.int .i64)).toArray.toList.take k ++ ((List.replicate m v).map (Value.int .i64)) ++ ((List.replicate k v ++ List.replicate (n - k) 0).map (Value.int .i64)).toArray.toList.drop (k + m)).toArray 3 _ (zAa HXD)
    have e := zQi v n k m (by omega)
    unfold splice at e
    unfold RowN
    rw [List.length_map, List.length_replicate] at e
    rw [← e, ← List.append_assoc]
    exact h
   have hkm : IntKind.i64.wrap ((k : Int) + (m : Int)) = ((k + m : Nat) : Int) := by simp [IntKind.wrap, IntKind.bits, IntKind.signed]; omega
   have hkm2 : IntKind.i64.wrap ((m : Int) + (k : Int)) = ((k + m : Nat) : Int) := by simp [IntKind.wrap, IntKind.bits, IntKind.signed]; omega
   clear hb hm HM HFIT HONE HSRC HPOS HXD HBD
   go_wp2_with fail
   go_region
   all_goals
    go_roundw
    case rel => exact ⟨_, _, _, _, _, _, _, _, _, _, _, _, _, _, ⟨k + m, by omega, by omega, by simp, HX5, zAa HB5⟩, rfl⟩
    case measure => simp [intOf]; omega
  ·obtain rfl : k = n := by omega
   have HB := hide hb
   go_wp2_with fail
   go_ret
   refine ⟨_, rfl, ?_, by rw [zAa HG]; exact zAa HB⟩
   have h2 : IRow wr G (List.replicate k v) [] := by
    have h := zAa HX
    unfold RowN at h
    unfold IRow Blk
    rw [List.append_nil]
    simpa using h
   rw [zAa HG]
   exact h2.own (Nat.le_refl _) (by simp) (by simp) (by unfold maxLen; omega)
end
section
open Go.RowKit
def treeB1 : OT := .next 9 (.next 15 (.next 16 (.next 17 (.fork (.next 18 (.fork (.next 19 (.next 20 (.next 21 (.next 22 .done)))) (.next 20 (.fork (.next 19 (.next 21 (.next 22 .done))) (.next 21 (.fork (.next 19 (.next 22 .done)) (.next 22 (.next 19 .done)))))))) (.next 19 (.next 18 (.next 20 (.next 21 (.next 22 .done)))))))))
def BkRound (w : World) (base nb : Nat) (p : BkL) (most ticks : Int) (r : BkS × (List Int × Int)) (e : Ending) (w' : World) : Prop :=
 ∃ (p' : BkL) (A : Option Addr) (c : Nat), e = .returned (.tuple #[.slice A nb c, .int .i64 r.2.2]) ∧ w'.ownsRow w.heap.size 3 1 (.slice A nb c) nb (r.2.1.map (.int .i64)) ∧ BkAt w' base nb p' most ticks r.1 ∧
  p'.g = p.g ∧ p'.gw = p.gw ∧ p'.gg = p.gg ∧ (p'.gq = p.gq ∨ w.heap.size ≤ p'.gq) ∧ Only p.has w w' ∧ (∀ q, (Value.slice A nb c).ownBlock = some q → ¬ p'.has q)
def CutB (w : World) (base nb : Nat) (p : BkL) (most ticks : Int) (s : BkS) (W : World) : Prop :=
 ∃ gq cq T, w.heap.size ≤ gq ∧ BkAt W base nb ⟨p.g, p.gw, p.gg, gq, cq, T⟩ most ticks s ∧ Only p.has w W
theorem bk_fresh {w wx W : World} {base nb : Nat} {p : BkL} {most ticks : Int} {s : BkS} {v : Value} {q : List Int} (h : BkAt wx base nb p most ticks s) (hb : Below w.heap.size w wx) (hB : base ≤ w.heap.size) (hbW : Below wx.heap.size wx W) (hq : W.ownsRow wx.heap.size 3 1 v nb (q.map (.int .i64))) (hnb : 1 ≤ nb) :
    CutB w base nb p most ticks { s with quota := q } (W.setCell ⟨p.g, 7, none⟩ v) := by
 obtain ⟨gq, cq, T, rfl, hg, hgl, hc, hcm, hT, hI⟩ := own_irow hq hnb
 have hl := fun k hk => h.lt k hk
 have hW := h.calm hbW
 have hsz := hb.size
 have n1 := hl p.g (.inl rfl)
 have n2 := hl p.gw (.inr (.inl rfl))
 have n3 := hl p.gg (.inr (.inr (.inl rfl)))
 refine ⟨gq, cq, T, by omega, ⟨hW.blk.set_ 7 _, Blk.far hW.rw_ (Ne.symm h.ng.1) _, Blk.far hW.rg (Ne.symm h.ng.2.1) _, Blk.far hI (by dsimp only; omega) _, ⟨hT, hcm⟩, ⟨h.low.1, h.low.2.1, h.low.2.2.1, by dsimp only; omega⟩, ⟨h.ne.1, by dsimp only; omega, by dsimp only; omega⟩⟩, ?_⟩
 exact Only.setCell (Only.of_below (hb.trans (hbW.mono hsz)) (fun x h1 h2 => by omega)) (fun _ => .inl rfl) _
theorem zZf {w : World} {base nb : Nat} {p : BkL} {most ticks : Int} {s : BkS} {i : Nat} (h : BkAt w base nb p most ticks s) (hg : i < s.granted.length) (hq : i < s.quota.length) (x y z : Int) (hx : x = s.granted.getD i 0 + s.due i) (hy : y = s.quota.getD i 0 - s.due i) (hz : z = s.reserve - s.due i) :
    BkAt (((w.setCell ⟨p.gg, i, none⟩ (.int .i64 x)).setCell ⟨p.gq, i, none⟩ (.int .i64 y)).setCell ⟨p.g, 3, none⟩ (.int .i64 z)) base nb p most ticks (rndAt s i) := by
 subst hx hy hz
 refine ⟨?_, ?_, ?_, ?_, h.cap, h.low, h.ne⟩
 ·exact ((h.blk.far h.ng.2.1 _).far h.ng.2.2 _).set_ 3 _
 ·exact Blk.far (Blk.far (Blk.far h.rw_ h.ne.1 _) h.ne.2.1 _) (Ne.symm h.ng.1) _
 ·exact Blk.far (Blk.far (h.rg.set_ hg _) h.ne.2.2 _) (Ne.symm h.ng.2.1) _
 ·have h1 : IRow (w.setCell ⟨p.gg, i, none⟩ (.int .i64 (s.granted.getD i 0 + s.due i))) p.gq s.quota p.T := Blk.far h.rq (Ne.symm h.ne.2.2) _
  exact Blk.far (h1.set_ hq _) (Ne.symm h.ng.2.2) _
set_option maxRecDepth 100000 in
set_option maxHeartbeats 4000000 in
theorem zSs (base nb : Nat) (p : BkL) (most ticks : Int) (s : BkS) (w : World) (K : Int) (h : BkAt w base nb p most ticks s) (ho : s.ok nb K) (hK : K ≤ 1000000) (hnb : 1 ≤ nb ∧ nb ≤ 8) (hm : 0 ≤ most ∧ most ≤ 1048576) (ht : 1 ≤ ticks ∧ ticks ≤ 8) (hB : base ≤ w.heap.size) :
    Calls Tryz.prog 82 #[.pointer (some ⟨p.g, 0, none⟩)] w (BkRound w base nb p most ticks (zBj most ticks s)) := by
 obtain ⟨g, gw, gg, gq0, cq0, T0⟩ := p
 dsimp only
 have c0 : w.cell? ⟨g, 0, none⟩ = some (.int .i64 most) := h.blk.cell 0
 have c1 : w.cell? ⟨g, 1, none⟩ = some (.int .i64 ticks) := h.blk.cell 1
 have c2 : w.cell? ⟨g, 2, none⟩ = some (.int .i64 s.round) := h.blk.cell 2
 have c3 : w.cell? ⟨g, 3, none⟩ = some (.int .i64 s.reserve) := h.blk.cell 3
 have hrd := ho.rd
 have hres := ho.res
 have HX := hide h
 have HO := hide ho
 have htm : Int.tmod s.round ticks = s.round % ticks := Int.tmod_eq_emod_of_nonneg hrd.1
 have htz : (ticks == 0) = false := by simp; omega
 clear h ho
 have HBL := hide (show s.wants.length = nb from (zAa HO).lw)
 have HLQ := hide (show s.quota.length = nb from (zAa HO).lq)
 by_cases hep : s.round % ticks = 0
 ·have HF := hide (show zBj most ticks s = (rnd { zFc most s with round := s.round + 1 } nb, (rnd { zFc most s with round := s.round + 1 } nb).granted, s.reserve) by unfold zBj; simp only [if_pos hep]; rw [zAa HBL])
  have hep' : (s.round % ticks == 0) = true := by simpa using hep
  clear hep
  go_enter Tryz.func82, Tryz.ntmps82
  go_wp2_with fail
  go_quiet (fail)
  go_wp2_with fail
  obtain ⟨wx, hwx⟩ : ∃ wx, wx = w.drewN nq := ⟨_, rfl⟩
  have HBX := hide (show Below w.heap.size w wx by rw [hwx]; exact below_drewN (Below.refl _ _) _)
  rw [← hwx]
  have HXx := hide ((zAa HX).calm (zAa HBX))
  have e0 := fun n : Ext wx => n.cell (show wx.cell? ⟨g, 0, none⟩ = some (.int .i64 most) from (zAa HXx).blk.cell 0)
  have e3 := fun n : Ext wx => n.cell (show wx.cell? ⟨g, 3, none⟩ = some (.int .i64 s.reserve) from (zAa HXx).blk.cell 3)
  have e5 := fun n : Ext wx => n.cell (show wx.cell? ⟨g, 5, none⟩ = some (.slice (some ⟨gw, 0, none⟩) nb nb) from (zAa HXx).blk.cell 5)
  have hnbi : (nb : Int) ≤ 8 := by omega
  clear hwx c0 c1 c2 c3 htm htz
  go_cut [22] (fun s22 W => Hid (CutB w base nb ⟨g, gw, gg, gq0, cq0, T0⟩ most ticks (zFc most s) W))
  case first =>
   refine zLq [0] [1, 2, 3, 4, 5, 6, 7, 8, 10, 11, 12, 13, 14] [9, 15, 16, 17] [18, 19, 20, 21, 22] treeB1 (by kernel_rfl) (by kernel_rfl) (by intro c a d v w h; cases d <;> exact h) ?_
   simp only [zAb, List.map_cons, List.map_nil, List.getD_cons_zero, List.getD_cons_succ]
   repeat (go_big_quiet_step (fail))
   refine wpQuiet_nil ?_
   repeat (go_big_quiet_step (fail))
   refine wpQuiet_nil ?_
   unfold treeB1
   obtain ⟨wd, hwd⟩ : ∃ wd, wd = wx.drew := ⟨_, rfl⟩
   have hd0 : Below wx.heap.size wx wd := by rw [hwd]; exact (Below.refl _ _).drew
   rw [← hwd]
   obtain ⟨w2, hw2⟩ : ∃ w2, w2 = wd.alloc (.cells #[.int .i64 most] 3) := ⟨_, rfl⟩
   have hd2 : Below wx.heap.size wx w2 := by rw [hw2]; exact hd0.alloc hd0.size _
   have k2 : Blk w2 wd.heap.size 3 #[.int .i64 most] := by rw [hw2]; exact Blk.new wd 3 _
   have HRE := hide (zMd most nb wd.heap.size 1 w2 hnb.1 (by omega) k2.lt (k2.cell 0))
   have HD2 := hide hd2
   have hs2 := hd2.size
   have HW2 := hide hw2
   clear hwd hd0 hd2 k2 hw2 e0 e3 e5
   refine zAc fun K0 hK0 => ?_
   simp only [zAb, List.map_cons, List.map_nil, List.getD_cons_zero, List.getD_cons_succ]
   go_wp2_with fail
   rw [← zAa HW2]
   refine hK0 _ _ (fun _ => ⟨⟨_, zAa HD2⟩, rfl⟩) ?_
   clear hK0 K0
   refine zAc fun K0 hK0 => ?_
   simp only [zAb, List.map_cons, List.map_nil, List.getD_cons_zero, List.getD_cons_succ]
   go_wp2_with fail
   refine (zAa HRE).mono ?_
   rintro _ w3 ⟨u3, rfl, ho3, hb3⟩
   have HD3 := hide ((zAa HD2).trans (hb3.mono hs2))
   obtain ⟨A3, c3, rfl, _⟩ := zAf ho3
   have hcap := zCx ho3
   have HSP := hide (yCr A3 nb c3 (List.replicate nb most) s.reserve w3.heap.size w3 (by simp) hcap.2.1 hcap.2.2 (by omega) (Reads.of_own ho3) (Nat.le_refl _))
   rw [zZw s.reserve most nb (by omega) hm hnb.2] at HSP
   have hs3 := hb3.size
   clear ho3 hb3 hcap
   go_wp2_with fail
   refine hK0 _ _ (fun _ => ⟨⟨_, zAa HD3⟩, rfl⟩) ?_
   clear hK0 K0
   refine zAc fun K0 hK0 => ?_
   simp only [zAb, List.map_cons, List.map_nil, List.getD_cons_zero, List.getD_cons_succ]
   go_wp2_with fail
   refine (zAa HSP).mono ?_
   rintro _ w4 ⟨v4, rfl, ho4, hb4⟩
   obtain ⟨g1, g2, g3⟩ := zOf s.reserve (List.replicate nb most) hres.1 (fun w hw => by have := List.eq_of_mem_replicate hw; omega)
   rw [List.length_replicate] at g1
   dsimp only at ho4
   rw [g1] at ho4
   obtain ⟨A4, c4, rfl, _⟩ := zAf ho4
   have HD4 := hide ((zAa HD3).trans (hb4.mono (by omega)))
   have hcut := bk_fresh (zAa HXx) (zAa HBX) hB (zAa HD4) (zBr ho4 (show wx.heap.size ≤ w3.heap.size by omega)) hnb.1
   have HCUT := hide (show CutB w base nb ⟨g, gw, gg, gq0, cq0, T0⟩ most ticks (zFc most s) (w4.setCell ⟨g, 7, none⟩ (.slice A4 nb c4)) by unfold zFc; rw [zAa HBL]; exact hcut)
   have k4 := ((zAa HXx).calm (zAa HD4)).blk
   have y7 : w4.cell? ⟨g, 7, none⟩ = some (.slice (some ⟨gq0, 0, none⟩) nb cq0) := k4.cell 7
   have y7f : w4.frozen? ⟨g, 7, none⟩ = false := k4.frozen 7
   clear ho4 hb4 g1 g2 g3 hcut k4
   go_wp2_with fail
   refine hK0 _ _ (fun _ => ⟨⟨_, zAa HD4⟩, rfl⟩) ?_
   clear hK0 K0
   refine zAc fun K0 hK0 => ?_
   simp only [zAb, List.map_cons, List.map_nil, List.getD_cons_zero, List.getD_cons_succ]
   go_wp2_with fail
   refine hK0 _ _ (fun _ => ⟨⟨_, zAa HD4⟩, rfl⟩) ?_
   clear hK0 K0
   refine zAm ?_ ?_
   ·refine zAc fun K0 hK0 => ?_
    simp only [zAb, List.map_cons, List.map_nil, List.getD_cons_zero, List.getD_cons_succ]
    go_wp2_with fail
    refine hK0 _ _ (fun h => absurd h (by decide)) ?_
    clear hK0 K0
    refine zAm ?_ ?_
    ·refine zAc fun K0 hK0 => ?_
     simp only [zAb, List.map_cons, List.map_nil, List.getD_cons_zero, List.getD_cons_succ]
     go_wp2_with fail
     refine hK0 _ _ (fun h => absurd h (by decide)) ?_
     clear hK0 K0
     refine zAc fun K0 hK0 => ?_
     simp only [zAb, List.map_cons, List.map_nil, List.getD_cons_zero, List.getD_cons_succ]
     go_wp2_with fail
     refine hK0 _ _ (fun h => absurd h (by decide)) ?_
     clear hK0 K0
     refine zAc fun K0 hK0 => ?_
     simp only [zAb, List.map_cons, List.map_nil, List.getD_cons_zero, List.getD_cons_succ]
     go_wp2_with fail
     refine hK0 _ _ (fun h => absurd h (by decide)) ?_
     clear hK0 K0
     refine zAc fun K0 hK0 => ?_
     simp only [zAb, List.map_cons, List.map_nil, List.getD_cons_zero, List.getD_cons_succ]
     go_wp2_with fail
     refine hK0 _ _ (fun h => absurd h (by decide)) ?_
     clear hK0 K0
     refine zBg ?_
     go_wp2_with fail
     go_meet
     exact HCUT
    ·refine zAc fun K0 hK0 => ?_
     simp only [zAb, List.map_cons, List.map_nil, List.getD_cons_zero, List.getD_cons_succ]
     go_wp2_with fail
     refine hK0 _ _ (fun h => absurd h (by decide)) ?_
     clear hK0 K0
     refine zAm ?_ ?_
     ·refine zAc fun K0 hK0 => ?_
      simp only [zAb, List.map_cons, List.map_nil, List.getD_cons_zero, List.getD_cons_succ]
      go_wp2_with fail
      refine hK0 _ _ (fun h => absurd h (by decide)) ?_
      clear hK0 K0
      refine zAc fun K0 hK0 => ?_
      simp only [zAb, List.map_cons, List.map_nil, List.getD_cons_zero, List.getD_cons_succ]
      go_wp2_with fail
      refine hK0 _ _ (fun h => absurd h (by decide)) ?_
      clear hK0 K0
      refine zAc fun K0 hK0 => ?_
      simp only [zAb, List.map_cons, List.map_nil, List.getD_cons_zero, List.getD_cons_succ]
      go_wp2_with fail
      refine hK0 _ _ (fun h => absurd h (by decide)) ?_
      clear hK0 K0
      refine zBg ?_
      go_wp2_with fail
      go_meet
      exact HCUT
     ·refine zAc fun K0 hK0 => ?_
      simp only [zAb, List.map_cons, List.map_nil, List.getD_cons_zero, List.getD_cons_succ]
      go_wp2_with fail
      refine hK0 _ _ (fun h => absurd h (by decide)) ?_
      clear hK0 K0
      refine zAm ?_ ?_
      ·refine zAc fun K0 hK0 => ?_
       simp only [zAb, List.map_cons, List.map_nil, List.getD_cons_zero, List.getD_cons_succ]
       go_wp2_with fail
       refine hK0 _ _ (fun h => absurd h (by decide)) ?_
       clear hK0 K0
       refine zAc fun K0 hK0 => ?_
       simp only [zAb, List.map_cons, List.map_nil, List.getD_cons_zero, List.getD_cons_succ]
       go_wp2_with fail
       refine hK0 _ _ (fun h => absurd h (by decide)) ?_
       clear hK0 K0
       refine zBg ?_
       go_wp2_with fail
       go_meet
       exact HCUT
      ·refine zAc fun K0 hK0 => ?_
       simp only [zAb, List.map_cons, List.map_nil, List.getD_cons_zero, List.getD_cons_succ]
       go_wp2_with fail
       refine hK0 _ _ (fun h => absurd h (by decide)) ?_
       clear hK0 K0
       refine zAc fun K0 hK0 => ?_
       simp only [zAb, List.map_cons, List.map_nil, List.getD_cons_zero, List.getD_cons_succ]
       go_wp2_with fail
       refine hK0 _ _ (fun h => absurd h (by decide)) ?_
       clear hK0 K0
       refine zBg ?_
       go_wp2_with fail
       go_meet
       exact HCUT
   ·refine zAc fun K0 hK0 => ?_
    simp only [zAb, List.map_cons, List.map_nil, List.getD_cons_zero, List.getD_cons_succ]
    go_wp2_with fail
    refine hK0 _ _ (fun h => absurd h (by decide)) ?_
    clear hK0 K0
    refine zAc fun K0 hK0 => ?_
    simp only [zAb, List.map_cons, List.map_nil, List.getD_cons_zero, List.getD_cons_succ]
    go_wp2_with fail
    refine hK0 _ _ (fun h => absurd h (by decide)) ?_
    clear hK0 K0
    refine zAc fun K0 hK0 => ?_
    simp only [zAb, List.map_cons, List.map_nil, List.getD_cons_zero, List.getD_cons_succ]
    go_wp2_with fail
    refine hK0 _ _ (fun h => absurd h (by decide)) ?_
    clear hK0 K0
    refine zAc fun K0 hK0 => ?_
    simp only [zAb, List.map_cons, List.map_nil, List.getD_cons_zero, List.getD_cons_succ]
    go_wp2_with fail
    refine hK0 _ _ (fun h => absurd h (by decide)) ?_
    clear hK0 K0
    refine zAc fun K0 hK0 => ?_
    simp only [zAb, List.map_cons, List.map_nil, List.getD_cons_zero, List.getD_cons_succ]
    go_wp2_with fail
    refine hK0 _ _ (fun h => absurd h (by decide)) ?_
    clear hK0 K0
    refine zBg ?_
    go_wp2_with fail
    go_meet
    exact HCUT
  case rest =>
   obtain ⟨gq, cq, T, hgq, hXc, hOc⟩ := zAa hcut
   dsimp only at hXc
   have HGQ := hide (show gq = gq0 ∨ w.heap.size ≤ gq from .inr hgq)
   obtain ⟨s1, hs1⟩ : ∃ s1, s1 = zFc most s := ⟨_, rfl⟩
   have ho1 : s1.ok nb K := by rw [hs1]; exact zUi (zAa HO) hm
   have hr1 : s1.round = s.round := by rw [hs1]; rfl
   rw [← hs1] at hXc HF
   obtain ⟨rep, hrep⟩ : ∃ rep : Int, rep = s.reserve := ⟨_, rfl⟩
   rw [← hrep] at HF
   have HXC := hide hXc
   have HOC := hide hOc
   have HO1 := hide ho1
   have HR1 := hide hr1
   clear hgq hXc hOc hs1 ho1 hr1 hcut
   go_upto_region 5 with fail
   rw [← hrep]
   clear hrep
   have d2 : wc.cell? ⟨g, 2, none⟩ = some (.int .i64 s1.round) := (zAa HXC).blk.cell 2
   have d2f : wc.frozen? ⟨g, 2, none⟩ = false := (zAa HXC).blk.frozen 2
   have hr1 := zAa HR1
   have hr2 : 0 ≤ s1.round ∧ s1.round ≤ 1000000 := by omega
   clear hr1
   go_upto_region 6 with fail
   obtain ⟨w5, hw5⟩ : ∃ w5, w5 = wc.setCell ⟨g, 2, none⟩ (.int .i64 (s1.round + 1)) := ⟨_, rfl⟩
   obtain ⟨s2, hs2⟩ : ∃ s2, s2 = { s1 with round := s.round + 1 } := ⟨_, rfl⟩
   have HX5 := hide (show BkAt w5 base nb ⟨g, gw, gg, gq, cq, T⟩ most ticks s2 by
    have h := zAa HXC
    rw [hw5, hs2, ← zAa HR1]
    exact ⟨h.blk.set_ 2 _, Blk.far h.rw_ (Ne.symm h.ng.1) _, Blk.far h.rg (Ne.symm h.ng.2.1) _, Blk.far h.rq (Ne.symm h.ng.2.2) _, h.cap, h.low, h.ne⟩)
   have HO5 := hide (show Only (BkL.has ⟨g, gw, gg, gq0, cq0, T0⟩) w w5 by rw [hw5]; exact Only.setCell (zAa HOC) (fun _ => .inl rfl) _)
   have HS2 := hide (show s2.ok nb (K + 1) by
    have t := zAa HO1
    rw [hs2]
    exact ⟨t.lw, t.lg, t.lq, (show 0 ≤ s.round + 1 ∧ s.round + 1 ≤ K + 1 by omega), t.res, t.w, t.g, t.gw, t.q, t.qs⟩)
   rw [← hs2] at HF
   rw [← hw5]
   have d5 : w5.cell? ⟨g, 5, none⟩ = some (.slice (some ⟨gw, 0, none⟩) nb nb) := (zAa HX5).blk.cell 5
   have hnbi : (nb : Int) ≤ 8 := by omega
   clear hw5 hs2 d2 d2f hr2
   go_wp2_with fail
   go_loopw [56] (fun i wr => ∃ k : Nat, k ≤ nb ∧ i = .int .i64 k ∧ Hid (BkAt wr base nb ⟨g, gw, gg, gq, cq, T⟩ most ticks (rnd s2 k)) ∧ Hid (Only (BkL.has ⟨g, gw, gg, gq, cq, T⟩) w5 wr)) (fun i _ => nb - (intOf i).toNat)
   case atStart => exact ⟨0, Nat.zero_le _, rfl, HX5, Only.refl _ _⟩
   case round =>
    obtain ⟨k, hk, rfl, HXR, HOR⟩ := hrel
    clear d5
    by_cases hlt : k < nb
    ·have ht := zKv (zAa HS2) k (by omega)
     obtain ⟨t, htt⟩ : ∃ t, t = rnd s2 k := ⟨_, rfl⟩
     rw [← htt] at ht HXR
     have HTT := hide htt
     obtain ⟨b0, b1, b2, b3⟩ := ht.due_ hlt
     have hx := ht.w _ (List.mem_of_getElem? (zBf ht.lw hlt))
     have hy := ht.g _ (List.mem_of_getElem? (zBf ht.lg hlt))
     have hz := ht.q _ (List.mem_of_getElem? (zBf ht.lq hlt))
     have hqs := zLu _ ht.q _ (List.mem_of_getElem? (zBf ht.lq hlt))
     have hqr := ht.qs
     have htr := ht.res
     have hX := zAa HXR
     have a5 : wr.cell? ⟨gw, k, none⟩ = some (.int .i64 (t.wants.getD k 0)) := IRow.cell hX.rw_ (zBf ht.lw hlt)
     have a6 : wr.cell? ⟨gg, k, none⟩ = some (.int .i64 (t.granted.getD k 0)) := IRow.cell hX.rg (zBf ht.lg hlt)
     have a7 : wr.cell? ⟨gq, k, none⟩ = some (.int .i64 (t.quota.getD k 0)) := IRow.cell hX.rq (zBf ht.lq hlt)
     have m3 : wr.cell? ⟨g, 3, none⟩ = some (.int .i64 t.reserve) := hX.blk.cell 3
     have m6 : wr.cell? ⟨g, 6, none⟩ = some (.slice (some ⟨gg, 0, none⟩) nb nb) := hX.blk.cell 6
     have m7 : wr.cell? ⟨g, 7, none⟩ = some (.slice (some ⟨gq, 0, none⟩) nb cq) := hX.blk.cell 7
     have f3 : wr.frozen? ⟨g, 3, none⟩ = false := hX.blk.frozen 3
     have f6 : wr.frozen? ⟨gg, k, none⟩ = false := IRow.frozen hX.rg k
     have f7 : wr.frozen? ⟨gq, k, none⟩ = false := IRow.frozen hX.rq k
     have n1 : ¬ g = gg := hX.ng.2.1
     have n2 : ¬ g = gq := hX.ng.2.2
     have n3 : ¬ gg = gq := hX.ne.2.2
     have n4 : ¬ gg = g := fun e => n1 e.symm
     have n5 : ¬ gq = g := fun e => n2 e.symm
     have n6 : ¬ gq = gg := fun e => n3 e.symm
     have HST := hide (fun (nn : Nat) x y z hx hy hz => zZf (i := k) (hX.only (D := fun _ => False) ((Only.refl _ wr).drewN nn) (fun _ _ e => e)) (by rw [ht.lg]; exact hlt) (by rw [ht.lq]; exact hlt) x y z hx hy hz)
     have hdue : t.due k = min (t.wants.getD k 0 - t.granted.getD k 0) (t.quota.getD k 0) := rfl
     obtain ⟨x, hxx⟩ : ∃ x, x = t.wants.getD k 0 := ⟨_, rfl⟩
     obtain ⟨y, hyy⟩ : ∃ y, y = t.granted.getD k 0 := ⟨_, rfl⟩
     obtain ⟨z, hzz⟩ : ∃ z, z = t.quota.getD k 0 := ⟨_, rfl⟩
     obtain ⟨n, hnn⟩ : ∃ n, n = t.due k := ⟨_, rfl⟩
     obtain ⟨rs, hrs⟩ : ∃ rs, rs = t.reserve := ⟨_, rfl⟩
     rw [← hxx] at a5 hx hdue b2
     rw [← hyy] at a6 hy hdue b2 HST
     rw [← hzz] at a7 hz hdue b1 hqs HST
     rw [← hrs] at m3 htr hqr b3 HST
     rw [← hnn] at hdue b0 b1 b2 b3 HST
     have hkn : (k : Int) < (nb : Int) := by omega
     have hfin : ∀ nn : Nat, ∀ y' z' r', y' = y + n → z' = z - n → r' = rs - n → Hid (BkAt ((((wr.drewN nn).setCell ⟨gg, k, none⟩ (.int .i64 y')).setCell ⟨gq, k, none⟩ (.int .i64 z')).setCell ⟨g, 3, none⟩ (.int .i64 r')) base nb ⟨g, gw, gg, gq, cq, T⟩ most ticks (rnd s2 (k + 1))) ∧ Hid (Only (BkL.has ⟨g, gw, gg, gq, cq, T⟩) w5 ((((wr.drewN nn).setCell ⟨gg, k, none⟩ (.int .i64 y')).setCell ⟨gq, k, none⟩ (.int .i64 z')).setCell ⟨g, 3, none⟩ (.int .i64 r'))) := fun nn y' z' r' h1 h2 h3 => by
      refine ⟨?_, ?_⟩
      ·have h := zAa HST nn y' z' r' h1 h2 h3
       rw [zAa HTT] at h
       exact h
      ·exact Only.setCell (Only.setCell (Only.setCell ((zAa HOR).drewN nn) (fun _ => .inr (.inr (.inl rfl))) _) (fun _ => .inr (.inr (.inr rfl))) _) (fun _ => .inl rfl) _
     have HFIN := hide hfin
     have hbb : rs ≤ 1048576 ∧ 0 ≤ rs ∧ z ≤ 1048576 := by omega
     clear hfin ht htt hqs hqr htr hX hxx hyy hzz hnn hrs
     rcases (show (x - y < z ∧ n = x - y) ∨ (z ≤ x - y ∧ n = z) by omega) with ⟨hmin, hn2⟩ | ⟨hmin, hn2⟩
     all_goals
      have HN2 := hide hn2
      clear hn2 hdue
      go_wp2_with fail
      refine zCo 16 (by kernel_rfl) (by kernel_rfl) ?_
      simp only [List.take_succ_cons, List.take_zero, List.drop_succ_cons, List.drop_zero]
      repeat (go_big_quiet_step (fail))
      refine wpQuiet_nil ?_
      rintro _ ⟨nq2, rfl⟩
      go_wp2_with fail
      go_roundw
      case rel =>
       have hn := zAa HN2
       exact ⟨k + 1, by omega, by go_num, (zAa HFIN nq2 _ _ _ (by omega) (by omega) (by omega)).1, (zAa HFIN nq2 _ _ _ (by omega) (by omega) (by omega)).2⟩
      case measure => simp [intOf]; omega
    ·obtain rfl : k = nb := by omega
     have ht := zKv (zAa HS2) k (Nat.le_refl _)
     have hX := zAa HXR
     have m6 : wr.cell? ⟨g, 6, none⟩ = some (.slice (some ⟨gg, 0, none⟩) k k) := hX.blk.cell 6
     have HOA := hide (show Only (BkL.has ⟨g, gw, gg, gq0, cq0, T0⟩) w wr from (zAa HO5).trans (zAa HOR) (fun a ha h => by
      rcases h with h | h | h | h
      ·exact .inl h
      ·exact .inr (.inl h)
      ·exact .inr (.inr (.inl h))
      ·rcases zAa HGQ with h2 | h2
       ·exact .inr (.inr (.inr (h.trans h2)))
       ·dsimp only at h; omega))
     have HCL := hide (zNh (some ⟨gg, 0, none⟩) k k (rnd s2 k).granted wr.heap.size wr ht.lg (by omega) (IRow.reads hX.rg ht.lg) (Nat.le_refl _))
     clear ht hX
     go_wp2_with fail
     refine (zAa HCL).mono ?_
     rintro _ w9 ⟨v9, rfl, ho9, hb9⟩
     obtain ⟨A9, c9, rfl, _⟩ := zAf ho9
     have HO9 := hide ho9
     have HB9 := hide hb9
     clear ho9 hb9
     go_wp2_with fail
     go_ret2
     rw [zAa HF]
     exact ⟨⟨g, gw, gg, gq, cq, T⟩, A9, c9, rfl, zBr (zAa HO9) (zAa HOA).size, (zAa HXR).calm (zAa HB9), rfl, rfl, rfl, zAa HGQ, (zAa HOA).calm (zAa HB9), fun q hq hh => by have h1 := ((zAa HO9).lt q hq).1; have h2 := (zAa HXR).lt q hh; omega⟩
 ·have HF := hide (show zBj most ticks s = (rnd { s with round := s.round + 1 } nb, (rnd { s with round := s.round + 1 } nb).granted, -1) by unfold zBj; simp only [if_neg hep]; rw [zAa HBL])
  have hep' : (s.round % ticks == 0) = false := by simpa using hep
  clear hep
  go_enter Tryz.func82, Tryz.ntmps82
  go_wp2_with fail
  go_quiet (fail)
  go_upto_region 5 with fail
  obtain ⟨wc, hwc⟩ : ∃ wc, wc = w.drewN nq := ⟨_, rfl⟩
  obtain ⟨gq, cq, T, s1, hGQ, hXc, hO1, hR1, hF⟩ : ∃ gq cq T s1, (gq = gq0 ∨ w.heap.size ≤ gq) ∧ BkAt wc base nb ⟨g, gw, gg, gq, cq, T⟩ most ticks s1 ∧ s1.ok nb K ∧ s1.round = s.round ∧ zBj most ticks s = (rnd { s1 with round := s.round + 1 } nb, (rnd { s1 with round := s.round + 1 } nb).granted, -1) :=
   ⟨gq0, cq0, T0, s, .inl rfl, by rw [hwc]; exact (zAa HX).calm (below_drewN (Below.refl _ _) _), zAa HO, rfl, zAa HF⟩
  have HGQ := hide hGQ
  have HXC := hide hXc
  have HO1 := hide hO1
  have HR1 := hide hR1
  have HOC := hide (show Only (BkL.has ⟨g, gw, gg, gq0, cq0, T0⟩) w wc by rw [hwc]; exact (Only.refl _ _).drewN _)
  obtain ⟨rep, hrep⟩ : ∃ rep : Int, rep = -1 := ⟨_, rfl⟩
  rw [← hrep] at hF
  rw [← hrep, ← hwc]
  clear HF
  have HF := hide hF
  clear hF hGQ hXc hO1 hR1 hrep hwc c0 c1 c2 c3 htm htz
  have d2 : wc.cell? ⟨g, 2, none⟩ = some (.int .i64 s1.round) := (zAa HXC).blk.cell 2
  have d2f : wc.frozen? ⟨g, 2, none⟩ = false := (zAa HXC).blk.frozen 2
  have hr1 := zAa HR1
  have hr2 : 0 ≤ s1.round ∧ s1.round ≤ 1000000 := by omega
  clear hr1
  go_upto_region 6 with fail
  obtain ⟨w5, hw5⟩ : ∃ w5, w5 = wc.setCell ⟨g, 2, none⟩ (.int .i64 (s1.round + 1)) := ⟨_, rfl⟩
  obtain ⟨s2, hs2⟩ : ∃ s2, s2 = { s1 with round := s.round + 1 } := ⟨_, rfl⟩
  have HX5 := hide (show BkAt w5 base nb ⟨g, gw, gg, gq, cq, T⟩ most ticks s2 by
   have h := zAa HXC
   rw [hw5, hs2, ← zAa HR1]
   exact ⟨h.blk.set_ 2 _, Blk.far h.rw_ (Ne.symm h.ng.1) _, Blk.far h.rg (Ne.symm h.ng.2.1) _, Blk.far h.rq (Ne.symm h.ng.2.2) _, h.cap, h.low, h.ne⟩)
  have HO5 := hide (show Only (BkL.has ⟨g, gw, gg, gq0, cq0, T0⟩) w w5 by rw [hw5]; exact Only.setCell (zAa HOC) (fun _ => .inl rfl) _)
  have HS2 := hide (show s2.ok nb (K + 1) by
   have t := zAa HO1
   rw [hs2]
   exact ⟨t.lw, t.lg, t.lq, (show 0 ≤ s.round + 1 ∧ s.round + 1 ≤ K + 1 by omega), t.res, t.w, t.g, t.gw, t.q, t.qs⟩)
  rw [← hs2] at HF
  rw [← hw5]
  have d5 : w5.cell? ⟨g, 5, none⟩ = some (.slice (some ⟨gw, 0, none⟩) nb nb) := (zAa HX5).blk.cell 5
  have hnbi : (nb : Int) ≤ 8 := by omega
  clear hw5 hs2 d2 d2f hr2
  go_wp2_with fail
  go_loopw [56] (fun i wr => ∃ k : Nat, k ≤ nb ∧ i = .int .i64 k ∧ Hid (BkAt wr base nb ⟨g, gw, gg, gq, cq, T⟩ most ticks (rnd s2 k)) ∧ Hid (Only (BkL.has ⟨g, gw, gg, gq, cq, T⟩) w5 wr)) (fun i _ => nb - (intOf i).toNat)
  case atStart => exact ⟨0, Nat.zero_le _, rfl, HX5, Only.refl _ _⟩
  case round =>
   obtain ⟨k, hk, rfl, HXR, HOR⟩ := hrel
   clear d5
   by_cases hlt : k < nb
   ·have ht := zKv (zAa HS2) k (by omega)
    obtain ⟨t, htt⟩ : ∃ t, t = rnd s2 k := ⟨_, rfl⟩
    rw [← htt] at ht HXR
    have HTT := hide htt
    obtain ⟨b0, b1, b2, b3⟩ := ht.due_ hlt
    have hx := ht.w _ (List.mem_of_getElem? (zBf ht.lw hlt))
    have hy := ht.g _ (List.mem_of_getElem? (zBf ht.lg hlt))
    have hz := ht.q _ (List.mem_of_getElem? (zBf ht.lq hlt))
    have hqs := zLu _ ht.q _ (List.mem_of_getElem? (zBf ht.lq hlt))
    have hqr := ht.qs
    have htr := ht.res
    have hX := zAa HXR
    have a5 : wr.cell? ⟨gw, k, none⟩ = some (.int .i64 (t.wants.getD k 0)) := IRow.cell hX.rw_ (zBf ht.lw hlt)
    have a6 : wr.cell? ⟨gg, k, none⟩ = some (.int .i64 (t.granted.getD k 0)) := IRow.cell hX.rg (zBf ht.lg hlt)
    have a7 : wr.cell? ⟨gq, k, none⟩ = some (.int .i64 (t.quota.getD k 0)) := IRow.cell hX.rq (zBf ht.lq hlt)
    have m3 : wr.cell? ⟨g, 3, none⟩ = some (.int .i64 t.reserve) := hX.blk.cell 3
    have m6 : wr.cell? ⟨g, 6, none⟩ = some (.slice (some ⟨gg, 0, none⟩) nb nb) := hX.blk.cell 6
    have m7 : wr.cell? ⟨g, 7, none⟩ = some (.slice (some ⟨gq, 0, none⟩) nb cq) := hX.blk.cell 7
    have f3 : wr.frozen? ⟨g, 3, none⟩ = false := hX.blk.frozen 3
    have f6 : wr.frozen? ⟨gg, k, none⟩ = false := IRow.frozen hX.rg k
    have f7 : wr.frozen? ⟨gq, k, none⟩ = false := IRow.frozen hX.rq k
    have n1 : ¬ g = gg := hX.ng.2.1
    have n2 : ¬ g = gq := hX.ng.2.2
    have n3 : ¬ gg = gq := hX.ne.2.2
    have n4 : ¬ gg = g := fun e => n1 e.symm
    have n5 : ¬ gq = g := fun e => n2 e.symm
    have n6 : ¬ gq = gg := fun e => n3 e.symm
    have HST := hide (fun (nn : Nat) x y z hx hy hz => zZf (i := k) (hX.only (D := fun _ => False) ((Only.refl _ wr).drewN nn) (fun _ _ e => e)) (by rw [ht.lg]; exact hlt) (by rw [ht.lq]; exact hlt) x y z hx hy hz)
    have hdue : t.due k = min (t.wants.getD k 0 - t.granted.getD k 0) (t.quota.getD k 0) := rfl
    obtain ⟨x, hxx⟩ : ∃ x, x = t.wants.getD k 0 := ⟨_, rfl⟩
    obtain ⟨y, hyy⟩ : ∃ y, y = t.granted.getD k 0 := ⟨_, rfl⟩
    obtain ⟨z, hzz⟩ : ∃ z, z = t.quota.getD k 0 := ⟨_, rfl⟩
    obtain ⟨n, hnn⟩ : ∃ n, n = t.due k := ⟨_, rfl⟩
    obtain ⟨rs, hrs⟩ : ∃ rs, rs = t.reserve := ⟨_, rfl⟩
    rw [← hxx] at a5 hx hdue b2
    rw [← hyy] at a6 hy hdue b2 HST
    rw [← hzz] at a7 hz hdue b1 hqs HST
    rw [← hrs] at m3 htr hqr b3 HST
    rw [← hnn] at hdue b0 b1 b2 b3 HST
    have hkn : (k : Int) < (nb : Int) := by omega
    have hfin : ∀ nn : Nat, ∀ y' z' r', y' = y + n → z' = z - n → r' = rs - n → Hid (BkAt ((((wr.drewN nn).setCell ⟨gg, k, none⟩ (.int .i64 y')).setCell ⟨gq, k, none⟩ (.int .i64 z')).setCell ⟨g, 3, none⟩ (.int .i64 r')) base nb ⟨g, gw, gg, gq, cq, T⟩ most ticks (rnd s2 (k + 1))) ∧ Hid (Only (BkL.has ⟨g, gw, gg, gq, cq, T⟩) w5 ((((wr.drewN nn).setCell ⟨gg, k, none⟩ (.int .i64 y')).setCell ⟨gq, k, none⟩ (.int .i64 z')).setCell ⟨g, 3, none⟩ (.int .i64 r'))) := fun nn y' z' r' h1 h2 h3 => by
     refine ⟨?_, ?_⟩
     ·have h := zAa HST nn y' z' r' h1 h2 h3
      rw [zAa HTT] at h
      exact h
     ·exact Only.setCell (Only.setCell (Only.setCell ((zAa HOR).drewN nn) (fun _ => .inr (.inr (.inl rfl))) _) (fun _ => .inr (.inr (.inr rfl))) _) (fun _ => .inl rfl) _
    have HFIN := hide hfin
    have hbb : rs ≤ 1048576 ∧ 0 ≤ rs ∧ z ≤ 1048576 := by omega
    clear hfin ht htt hqs hqr htr hX hxx hyy hzz hnn hrs
    rcases (show (x - y < z ∧ n = x - y) ∨ (z ≤ x - y ∧ n = z) by omega) with ⟨hmin, hn2⟩ | ⟨hmin, hn2⟩
    all_goals
     have HN2 := hide hn2
     clear hn2 hdue
     go_wp2_with fail
     refine zCo 16 (by kernel_rfl) (by kernel_rfl) ?_
     simp only [List.take_succ_cons, List.take_zero, List.drop_succ_cons, List.drop_zero]
     repeat (go_big_quiet_step (fail))
     refine wpQuiet_nil ?_
     rintro _ ⟨nq2, rfl⟩
     go_wp2_with fail
     go_roundw
     case rel =>
      have hn := zAa HN2
      exact ⟨k + 1, by omega, by go_num, (zAa HFIN nq2 _ _ _ (by omega) (by omega) (by omega)).1, (zAa HFIN nq2 _ _ _ (by omega) (by omega) (by omega)).2⟩
     case measure => simp [intOf]; omega
   ·obtain rfl : k = nb := by omega
    have ht := zKv (zAa HS2) k (Nat.le_refl _)
    have hX := zAa HXR
    have m6 : wr.cell? ⟨g, 6, none⟩ = some (.slice (some ⟨gg, 0, none⟩) k k) := hX.blk.cell 6
    have HOA := hide (show Only (BkL.has ⟨g, gw, gg, gq0, cq0, T0⟩) w wr from (zAa HO5).trans (zAa HOR) (fun a ha h => by
     rcases h with h | h | h | h
     ·exact .inl h
     ·exact .inr (.inl h)
     ·exact .inr (.inr (.inl h))
     ·rcases zAa HGQ with h2 | h2
      ·exact .inr (.inr (.inr (h.trans h2)))
      ·dsimp only at h; omega))
    have HCL := hide (zNh (some ⟨gg, 0, none⟩) k k (rnd s2 k).granted wr.heap.size wr ht.lg (by omega) (IRow.reads hX.rg ht.lg) (Nat.le_refl _))
    clear ht hX
    go_wp2_with fail
    refine (zAa HCL).mono ?_
    rintro _ w9 ⟨v9, rfl, ho9, hb9⟩
    obtain ⟨A9, c9, rfl, _⟩ := zAf ho9
    have HO9 := hide ho9
    have HB9 := hide hb9
    clear ho9 hb9
    go_wp2_with fail
    go_ret2
    rw [zAa HF]
    exact ⟨⟨g, gw, gg, gq, cq, T⟩, A9, c9, rfl, zBr (zAa HO9) (zAa HOA).size, (zAa HXR).calm (zAa HB9), rfl, rfl, rfl, zAa HGQ, (zAa HOA).calm (zAa HB9), fun q hq hh => by have h1 := ((zAa HO9).lt q hq).1; have h2 := (zAa HXR).lt q hh; omega⟩
end
section
open Go.RowKit
theorem zBe (w : World) (s : Nat) : IRow (w.alloc (.cells (madeCells #[Value.int .i64 0] s) 3)) w.heap.size (List.replicate s 0) [] := by
 unfold IRow
 have e : ((List.replicate s (0 : Int)).map (Value.int .i64) ++ []).toArray = madeCells #[Value.int .i64 0] s := by
  rw [← Array.toList_inj]
  simp [toList_madeCells_one]
 rw [e]
 exact Blk.new w 3 _
theorem zLa (base nb : Nat) (most ticks : Int) (w : World) (hnb : nb ≤ 8) (hB : base ≤ w.heap.size) (a b c : Nat) (ha : w.heap.size ≤ a ∧ a ≤ w.heap.size + 2) (hb : w.heap.size ≤ b ∧ b ≤ w.heap.size + 2) (hc : w.heap.size ≤ c ∧ c ≤ w.heap.size + 2) (hn : a ≠ b ∧ a ≠ c ∧ b ≠ c) (W : World)
    (hW : W = ((((w.alloc (.cells (madeCells #[Value.int .i64 0] nb) 3)).alloc (.cells (madeCells #[Value.int .i64 0] nb) 3)).alloc (.cells (madeCells #[Value.int .i64 0] nb) 3)).alloc (.cells #[.int .i64 most, .int .i64 ticks, .int .i64 0, .int .i64 0, .int .i64 0, .slice (some ⟨a, 0, none⟩) nb nb, .slice (some ⟨b, 0, none⟩) nb nb, .slice (some ⟨c, 0, none⟩) nb nb] 75)).drew) :
    BkAt W base nb ⟨w.heap.size + 3, a, b, c, nb, []⟩ most ticks (BkS.new nb) ∧ Below w.heap.size w W ∧ ∀ k, BkL.has ⟨w.heap.size + 3, a, b, c, nb, []⟩ k → w.heap.size ≤ k := by
 subst hW
 obtain ⟨w1, hw1⟩ : ∃ w1, w1 = w.alloc (.cells (madeCells #[Value.int .i64 0] nb) 3) := ⟨_, rfl⟩
 obtain ⟨w2, hw2⟩ : ∃ w2, w2 = w1.alloc (.cells (madeCells #[Value.int .i64 0] nb) 3) := ⟨_, rfl⟩
 obtain ⟨w3, hw3⟩ : ∃ w3, w3 = w2.alloc (.cells (madeCells #[Value.int .i64 0] nb) 3) := ⟨_, rfl⟩
 rw [← hw1, ← hw2, ← hw3]
 have s1 : w1.heap.size = w.heap.size + 1 := by rw [hw1]; simp
 have s2 : w2.heap.size = w.heap.size + 2 := by rw [hw2]; simp [s1]
 have s3 : w3.heap.size = w.heap.size + 3 := by rw [hw3]; simp [s2]
 have r1 : IRow w1 w.heap.size (List.replicate nb 0) [] := by rw [hw1]; exact zBe w nb
 have r2 : IRow w2 (w.heap.size + 1) (List.replicate nb 0) [] := by rw [hw2, ← s1]; exact zBe w1 nb
 have r3 : IRow w3 (w.heap.size + 2) (List.replicate nb 0) [] := by rw [hw3, ← s2]; exact zBe w2 nb
 have b1 : Below w.heap.size w w1 := by rw [hw1]; exact (Below.refl _ _).alloc (Nat.le_refl _) _
 have b2 : Below w1.heap.size w1 w2 := by rw [hw2]; exact (Below.refl _ _).alloc (Nat.le_refl _) _
 have b3 : Below w2.heap.size w2 w3 := by rw [hw3]; exact (Below.refl _ _).alloc (Nat.le_refl _) _
 have q1 : IRow w3 w.heap.size (List.replicate nb 0) [] := Blk.below (Blk.below r1 b2 (Blk.lt r1)) b3 (by omega)
 have q2 : IRow w3 (w.heap.size + 1) (List.replicate nb 0) [] := Blk.below r2 b3 (by omega)
 have hz : ∀ k, w.heap.size ≤ k → k ≤ w.heap.size + 2 → ∀ o, IRow ((w3.alloc o).drew) k (List.replicate nb 0) [] := fun k h1 h2 o => by
  have h3 : IRow w3 k (List.replicate nb 0) [] := by
   rcases (show k = w.heap.size ∨ k = w.heap.size + 1 ∨ k = w.heap.size + 2 by omega) with rfl | rfl | rfl
   ·exact q1
   ·exact q2
   ·exact r3
  exact Blk.drew (Blk.alloc h3 o)
 refine ⟨⟨?_, hz a ha.1 ha.2 _, hz b hb.1 hb.2 _, hz c hc.1 hc.2 _, ⟨by simp, by unfold maxLen; dsimp only; omega⟩, ⟨by dsimp only; omega, by dsimp only; omega, by dsimp only; omega, by dsimp only; omega⟩, hn⟩, ?_, fun k hk => ?_⟩
 ·rw [← s3]
  exact (Blk.new w3 75 _).drew
 ·exact (((b1.trans (b2.mono (by omega))).trans (b3.mono (by omega))).alloc (by omega) _).drew
 ·rcases hk with rfl | rfl | rfl | rfl
  ·exact Nat.le_add_right _ _
  ·exact ha.1
  ·exact hb.1
  ·exact hc.1
set_option maxRecDepth 100000 in
set_option maxHeartbeats 1000000 in
theorem zWu (base nb : Nat) (most ticks : Int) (w : World) (hnb : nb ≤ 8) (hB : base ≤ w.heap.size) :
    Calls Tryz.prog 61 #[.int .i64 nb, .int .i64 most, .int .i64 ticks] w fun e w' => ∃ p : BkL, e = .returned (.pointer (some ⟨p.g, 0, none⟩)) ∧ BkAt w' base nb p most ticks (BkS.new nb) ∧ Below w.heap.size w w' ∧ ∀ k, p.has k → w.heap.size ≤ k := by
 obtain ⟨i0, hi, hz0, hz1, hz2⟩ := zMe
 have hmk := fun W => zDn (P := Tryz.prog) 22 3 i0 _ Tryz.underlying22 hi hz0 .i64 .i64 nb nb (Nat.le_refl _) (by rw [hz2]; omega) (by omega) W
 rw [hz1] at hmk
 go_enter Tryz.func61, Tryz.ntmps61
 go_wp2_with fail
 go_region
 all_goals
  go_wp2_with fail
  go_ret
  first
   | exact ⟨_, rfl, zLa base nb most ticks w hnb hB w.heap.size (w.heap.size + 1) (w.heap.size + 2) (by omega) (by omega) (by omega) (by omega) _ rfl⟩
   | exact ⟨_, rfl, zLa base nb most ticks w hnb hB w.heap.size (w.heap.size + 2) (w.heap.size + 1) (by omega) (by omega) (by omega) (by omega) _ rfl⟩
   | exact ⟨_, rfl, zLa base nb most ticks w hnb hB (w.heap.size + 1) w.heap.size (w.heap.size + 2) (by omega) (by omega) (by omega) (by omega) _ rfl⟩
   | exact ⟨_, rfl, zLa base nb most ticks w hnb hB (w.heap.size + 1) (w.heap.size + 2) w.heap.size (by omega) (by omega) (by omega) (by omega) _ rfl⟩
   | exact ⟨_, rfl, zLa base nb most ticks w hnb hB (w.heap.size + 2) w.heap.size (w.heap.size + 1) (by omega) (by omega) (by omega) (by omega) _ rfl⟩
   | exact ⟨_, rfl, zLa base nb most ticks w hnb hB (w.heap.size + 2) (w.heap.size + 1) w.heap.size (by omega) (by omega) (by omega) (by omega) _ rfl⟩
end
end Go.Proofs.YtbolcebmbpepdaaGreatDoor
