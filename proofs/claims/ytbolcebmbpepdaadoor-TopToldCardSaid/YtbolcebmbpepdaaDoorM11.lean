/- Contracts and plain facts, set together by program out of smaller texts. Conditions: none beyond what each theorem states. -/
import Derived.Laws.CopyOwn
import Derived.Test.YtbolcebmbpepdaaDoorM10
namespace Go.Proofs.YtbolcebmbpepdaaDoor
set_option linter.unusedVariables false
section
open Go.RowKit
theorem mul64_one (n : Nat) (hn : n ≤ 32) (w : World) :
    Calls Tryd.prog 93 #[.int .u64 1, .int .u64 n] w fun e w' => e = .returned (.tuple #[.int .u64 0, .int .u64 n]) ∧ w = w' := by
  have h1 : bits .and .u64 (n : Int) 4294967295 = n := by
    rw [show (4294967295 : Int) = ((4294967295 : Nat) : Int) from rfl, u64_and_nat n 4294967295 (by omega) (by omega)]
    rw [show (4294967295 : Nat) = 2 ^ 32 - 1 from rfl, Nat.and_two_pow_sub_one_eq_mod, Nat.mod_eq_of_lt (by omega)]
  have h0 : bits .and .u64 1 4294967295 = 1 := by
    rw [show (4294967295 : Int) = ((4294967295 : Nat) : Int) from rfl, show (1 : Int) = ((1 : Nat) : Int) from rfl, u64_and_nat 1 4294967295 (by omega) (by omega)]
    rw [show (4294967295 : Nat) = 2 ^ 32 - 1 from rfl, Nat.and_two_pow_sub_one_eq_mod, Nat.mod_eq_of_lt (by omega)]
  have h6 : bits .and .u64 0 4294967295 = 0 := by
    rw [show (4294967295 : Int) = ((4294967295 : Nat) : Int) from rfl, show (0 : Int) = ((0 : Nat) : Int) from rfl, u64_and_nat 0 4294967295 (by omega) (by omega)]
    rw [show (4294967295 : Nat) = 2 ^ 32 - 1 from rfl, Nat.and_two_pow_sub_one_eq_mod, Nat.mod_eq_of_lt (by omega)]
  have h5 : IntKind.u64.wrap (n : Int) = n := by simp [IntKind.wrap, IntKind.bits, IntKind.signed]; omega
  have h7 : IntKind.u64.wrap 0 = 0 := by simp [IntKind.wrap, IntKind.bits, IntKind.signed]
  have h2 : (n : Int) / 2 ^ 32 = 0 := by omega
  have h3 : (n : Int) / 4294967296 = 0 := by omega
  have h4 : n / 4294967296 = 0 := by omega
  go_enter Tryd.func93, Tryd.ntmps93
  go_wp2_with fail
  go_ret2
  exact ⟨rfl, rfl⟩
theorem mul_one (n : Nat) (hn : n ≤ 32) (w : World) :
    Calls Tryd.prog 80 #[.int .u64 1, .int .u64 n] w fun e w' => e = .returned (.tuple #[.int .u64 0, .int .u64 n]) ∧ w = w' := by
  have H := hide (mul64_one n hn w)
  go_enter Tryd.func80, Tryd.ntmps80
  go_wp2_with fail
  refine (unhide H).mono ?_
  rintro _ _ ⟨rfl, rfl⟩
  go_wp2_with fail
  go_ret2
  exact ⟨rfl, rfl⟩
theorem splice_rep (v : Int) (n k m : Nat) (hk : k + m ≤ n) : splice ((List.replicate k v ++ List.replicate (n - k) 0).map (Value.int .i64)) k ((List.replicate m v).map (Value.int .i64)) = (List.replicate (k + m) v ++ List.replicate (n - (k + m)) 0).map (Value.int .i64) := by
  have e : splice (List.replicate k v ++ List.replicate (n - k) 0) k (List.replicate m v) = List.replicate (k + m) v ++ List.replicate (n - (k + m)) 0 := by
    unfold splice
    have e1 : (List.replicate k v ++ List.replicate (n - k) (0 : Int)).take k = List.replicate k v := by
      rw [List.take_append_of_le_length (by simp), List.take_of_length_le (by simp)]
    have e2 : (List.replicate k v ++ List.replicate (n - k) (0 : Int)).drop (k + (List.replicate m v).length) = List.replicate (n - (k + m)) 0 := by
      rw [List.length_replicate, List.drop_append, List.length_replicate, show k + m - k = m by omega, List.drop_of_length_le (by simp), List.nil_append, List.drop_replicate]
      congr 1
      omega
    rw [e1, e2, ← List.append_assoc, List.replicate_append_replicate]
  rw [← e]
  unfold splice
  simp [List.map_drop]
def RowN (w : World) (G n : Nat) (v : Int) (k : Nat) : Prop := w.heap[G]? = some (.cells ((List.replicate k v ++ List.replicate (n - k) 0).map (Value.int .i64)).toArray 3 (0, 0))
theorem RowN.cell {w : World} {G n : Nat} {v : Int} {k : Nat} (h : RowN w G n v k) {j : Nat} (hj : j < k) : w.cell? ⟨G, j, none⟩ = some (.int .i64 v) := by
  have h2 : IRow w G (List.replicate k v ++ List.replicate (n - k) 0) [] := by unfold IRow Blk; rw [List.append_nil]; exact h
  refine h2.cell ?_
  rw [List.getElem?_append_left (by simpa using hj), List.getElem?_replicate, if_pos hj]
theorem reps_cells {w : World} {G n : Nat} {v : Int} {k m : Nat} (h : RowN w G n v k) (hm : m ≤ k) : ∀ (j : Nat) (u : Value), ((List.replicate m v).map (Value.int .i64))[j]? = some u → w.cell? ((⟨G, 0, none⟩ : Addr).add j) = some u := by
  intro j u hu
  have hj : j < m := by
    rcases Nat.lt_or_ge j m with h1 | h1
    · exact h1
    · rw [List.getElem?_eq_none (by simpa using h1)] at hu; cases hu
  have e : (⟨G, 0, none⟩ : Addr).add j = ⟨G, j, none⟩ := by unfold Addr.add; split <;> simp_all
  rw [List.getElem?_map, List.getElem?_replicate, if_pos hj] at hu
  injection hu with hu
  rw [e, h.cell (by omega), ← hu]
set_option maxRecDepth 100000 in
set_option maxHeartbeats 800000 in
theorem repeat_any (v : Int) (n g0 c0 : Nat) (w : World) (h1 : 1 ≤ n) (hn : n ≤ 32) (hg : g0 < w.heap.size) (hv : w.cell? ⟨g0, 0, none⟩ = some (.int .i64 v)) :
    Calls Tryd.prog 57 #[.slice (some ⟨g0, 0, none⟩) 1 c0, .int .i64 n] w fun e w' => ∃ u, e = .returned u ∧ w'.ownsRow w.heap.size 3 1 u n ((List.replicate n v).map (.int .i64)) ∧ Below w.heap.size w w' := by
  obtain ⟨i0, hi, hz0, hz1, hz2⟩ := int_info
  have hmk := fun W => run_make_rowN (P := Tryd.prog) 22 3 i0 _ Tryd.underlying22 hi hz0 .i64 .i64 n n (Nat.le_refl _) (by rw [hz2]; omega) (by omega) W
  rw [hz1] at hmk
  have H := hide (mul_one n hn w)
  have HROW := hide (show RowN (w.alloc (.cells (madeCells #[.int .i64 0] (n * 1)) 3)) w.heap.size n v 0 by
    unfold RowN
    have e : ((List.replicate 0 v ++ List.replicate (n - 0) (0 : Int)).map (Value.int .i64)).toArray = madeCells #[.int .i64 0] (n * 1) := by
      rw [← Array.toList_inj, toList_madeCells_one]; simp
    rw [e]
    exact Blk.new w 3 _)
  have HB0 := hide ((Below.refl w.heap.size w).alloc (Nat.le_refl _) (.cells (madeCells #[.int .i64 0] (n * 1)) 3))
  have HV := hide (show (w.alloc (.cells (madeCells #[.int .i64 0] (n * 1)) 3)).cell? ⟨g0, 0, none⟩ = some (.int .i64 v) from (World.cell?_alloc_lt w _ ⟨g0, 0, none⟩ hg).trans hv)
  have hsz : (Tryd.prog.info? 3).map (·.size) = some 1 := by kernel_rfl
  rw [Nat.mul_one] at hmk HROW HB0 HV
  have HSZ := hide hsz
  clear hsz hv
  go_enter Tryd.func57, Tryd.ntmps57
  go_wp2_with fail
  refine (unhide H).mono ?_
  rintro _ _ ⟨rfl, rfl⟩
  have HSRC := hide (show ∀ (j : Nat) (u : Value), ((List.replicate 1 v).map (Value.int .i64))[j]? = some u → (w.alloc (.cells (madeCells #[.int .i64 0] n) 3)).cell? ((⟨g0, 0, none⟩ : Addr).add j) = some u from fun j u hu => by
    cases j with
    | zero => simp at hu; rw [← hu]; exact unhide HV
    | succ j => simp at hu)
  have hl1 : ((List.replicate 1 v).map (Value.int .i64)).length = Nat.min 1 n := by rw [List.length_map, List.length_replicate]; exact (Nat.min_eq_left h1).symm
  have HL1 := hide hl1
  have hl2 : 0 + ((List.replicate 1 v).map (Value.int .i64)).length ≤ ((List.replicate 0 v ++ List.replicate (n - 0) 0).map (Value.int .i64)).length := by simp; omega
  have HL2 := hide hl2
  have HONE := hide (ints_one .i64 (List.replicate 1 v))
  clear hl1 hl2
  go_wp2_with (first
    | ((refine wpList_copy_splice rfl (.tmp 31) (.tmp 32) 22 22 rfl 3 Tryd.underlying22 (unhide HSZ) (some ⟨w.heap.size, 0, none⟩) (some ⟨g0, 0, none⟩) n n 1 c0 rfl rfl w.heap.size 0 _ 3 (unhide HROW) ((List.replicate 1 v).map (Value.int .i64)) (unhide HL1) (fun _ => ⟨rfl, _, rfl, unhide HSRC⟩) (unhide HL2) (unhide HONE) w.heap.size w (unhide HB0) (Nat.le_refl _) ?_); intro w4 hg4 hb4))
  have HR1 := hide (show RowN w4 w.heap.size n v 1 by
    have h := unhide hg4
    have e := splice_rep v n 0 1 (by omega)
    unfold RowN
    rw [e] at h
    exact h)
  have HB4 := hide hb4
  clear hg4 hb4 HROW HB0 HV HSRC HL1 HL2 HONE hmk
  generalize hG : w.heap.size = G at *
  have HG := hide hG
  clear hG
  go_loopw [8] (fun x wr => ∃ (k : Nat), 1 ≤ k ∧ k ≤ n ∧ x = .int .i64 k ∧ Hid (RowN wr G n v k) ∧ Below G w wr) (fun x _ => n - (intOf x).toNat)
  case atStart => exact ⟨1, Nat.le_refl _, h1, rfl, HR1, unhide HB4⟩
  case round =>
    obtain ⟨k, hk1, hkn, rfl, HX, hb⟩ := hrel
    by_cases hlt : k < n
    · have hb1 : (0 : Int) ≤ (k : Int) := by omega
      have hb2 : (k : Int) ≤ (n : Int) := by omega
      have HB := hide hb
      obtain ⟨m, hm⟩ : ∃ m, m = Nat.min k (n - k) := ⟨_, rfl⟩
      have hm1 : m ≤ k := by rw [hm]; exact Nat.min_le_left _ _
      have hm2 : m ≤ n - k := by rw [hm]; exact Nat.min_le_right _ _
      have hm3 : 1 ≤ m := by rw [hm]; exact Nat.le_min.2 ⟨hk1, by omega⟩
      have HM := hide (show ((List.replicate m v).map (Value.int .i64)).length = Nat.min k (n - k) by rw [List.length_map, List.length_replicate]; exact hm)
      have HFIT := hide (show k + ((List.replicate m v).map (Value.int .i64)).length ≤ ((List.replicate k v ++ List.replicate (n - k) 0).map (Value.int .i64)).length by simp; omega)
      have HONE := hide (ints_one .i64 (List.replicate m v))
      have HSRC := hide (show ∀ (j : Nat) (u : Value), ((List.replicate m v).map (Value.int .i64))[j]? = some u → wr.drew.cell? ((⟨G, 0, none⟩ : Addr).add j) = some u from reps_cells (unhide HX) hm1)
      have HPOS := hide (show 0 < ((List.replicate m v).map (Value.int .i64)).length → (some ⟨G, k, none⟩ : Option Addr) = some ⟨G, k, none⟩ ∧ ∃ ad, (some ⟨G, 0, none⟩ : Option Addr) = some ad ∧ ∀ (j : Nat) (u : Value), ((List.replicate m v).map (Value.int .i64))[j]? = some u → wr.drew.cell? (ad.add j) = some u from fun _ => ⟨rfl, _, rfl, unhide HSRC⟩)
      have HXD := hide (show wr.drew.heap[G]? = some (.cells ((List.replicate k v ++ List.replicate (n - k) 0).map (Value.int .i64)).toArray 3 (0, 0)) by have h := unhide HX; unfold RowN at h; exact h)
      have HBD := hide (show Below G w wr.drew from hb.drew)
      have hnk : ¬ n = k := by omega
      obtain ⟨w5, HX5, HB5, hcp⟩ : ∃ w5, Hid (RowN w5 G n v (k + m)) ∧ Hid (Below G w w5) ∧ (Builtin.copy_ #[22, 22] 3 #[.slice (some ⟨G, k, none⟩) (n - k) (n - k), .slice (some ⟨G, 0, none⟩) k n]).run Tryd.prog wr.drew = .ok (.int .i64 m) w5 := by
        have hrun := run_copy_row (P := Tryd.prog) wr.drew 22 22 3 3 G k (n - k) (n - k) ⟨G, 0, none⟩ k n ((List.replicate k v ++ List.replicate (n - k) 0).map (Value.int .i64)).toArray 3 ((List.replicate m v).map (Value.int .i64)) Tryd.underlying22 (unhide HSZ) (unhide HXD) (unhide HM) (unhide HSRC) (by have h := unhide HFIT; simpa using h) (unhide HONE)
        rw [List.length_map, List.length_replicate] at hrun
        refine ⟨_, hide ?_, hide (below_setRow (unhide HBD) (Nat.le_refl _) _), hrun⟩
        have h := setRow_heap wr.drew G _ (((List.replicate k v ++ List.replicate (n - k) 0).map (Value.int .i64)).toArray.toList.take k ++ ((List.replicate m v).map (Value.int .i64)) ++ ((List.replicate k v ++ List.replicate (n - k) 0).map (Value.int .i64)).toArray.toList.drop (k + m)).toArray 3 _ (unhide HXD)
        have e := splice_rep v n k m (by omega)
        unfold splice at e
        unfold RowN
        rw [List.length_map, List.length_replicate] at e
        rw [← e, ← List.append_assoc]
        exact h
      have hkm : IntKind.i64.wrap ((k : Int) + (m : Int)) = ((k + m : Nat) : Int) := by simp [IntKind.wrap, IntKind.bits, IntKind.signed]; omega
      have hkm2 : IntKind.i64.wrap ((m : Int) + (k : Int)) = ((k + m : Nat) : Int) := by simp [IntKind.wrap, IntKind.bits, IntKind.signed]; omega
      clear hb hm HM HFIT HONE HSRC HPOS HXD HBD
      go_wp2_with fail
      go_region
      all_goals
        go_roundw
        case rel => exact ⟨_, _, _, _, _, _, _, _, _, _, _, _, _, _, ⟨k + m, by omega, by omega, by simp, HX5, unhide HB5⟩, rfl⟩
        case measure => simp [intOf]; omega
    · obtain rfl : k = n := by omega
      have HB := hide hb
      go_wp2_with fail
      go_ret
      refine ⟨_, rfl, ?_, by rw [unhide HG]; exact unhide HB⟩
      have h2 : IRow wr G (List.replicate k v) [] := by
        have h := unhide HX
        unfold RowN at h
        unfold IRow Blk
        rw [List.append_nil]
        simpa using h
      rw [unhide HG]
      exact h2.own (Nat.le_refl _) (by simp) (by simp) (by unfold maxLen; omega)
end
end Go.Proofs.YtbolcebmbpepdaaDoor
