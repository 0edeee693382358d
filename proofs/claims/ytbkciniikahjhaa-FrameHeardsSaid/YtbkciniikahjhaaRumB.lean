/- frame.shared. Conditions: none beyond what each theorem states. -/
import Derived.Test.YtbkciniikahjhaaRumA
import Derived.Test.YtbkciniikahjhaaInfo
namespace Go.Proofs.Ytbkciniikahjhaa
open Go.RowKit
set_option linter.unusedVariables false

theorem both_bits (z a b : Nat) (hz : z ≤ 255) : (bits .and .i64 (bits .and .i64 ((z : Int) / 2 ^ a) ((z : Int) / 2 ^ b)) 1 == 1) = (z.testBit a && z.testBit b) := by
  have ea : ((z:Int) / 2 ^ a) = ((z / 2 ^ a : Nat) : Int) := by simp
  have eb : ((z:Int) / 2 ^ b) = ((z / 2 ^ b : Nat) : Int) := by simp
  have ha : z / 2 ^ a ≤ 255 := Nat.le_trans (Nat.div_le_self _ _) hz
  have hb : z / 2 ^ b ≤ 255 := Nat.le_trans (Nat.div_le_self _ _) hz
  have hab : (z / 2 ^ a) &&& (z / 2 ^ b) ≤ 255 := Nat.le_trans Nat.and_le_left ha
  rw [ea, eb, i64_and_nat _ _ (by omega) (by omega), show (1:Int) = ((1:Nat):Int) from rfl, i64_and_nat _ _ (by omega) (by omega), Nat.and_one_is_mod]
  have h : ((z / 2 ^ a) &&& (z / 2 ^ b)).testBit 0 = (z.testBit a && z.testBit b) := by
    rw [Nat.testBit_and, Nat.testBit_div_two_pow, Nat.testBit_div_two_pow]
    simp
  rw [← h, Nat.testBit_zero]
  generalize (z / 2 ^ a) &&& (z / 2 ^ b) = x
  rw [Bool.eq_iff_iff]; simp; omega
set_option maxRecDepth 100000 in
set_option maxHeartbeats 2000000 in
theorem frameShared_any (c : Cfg) (a b : Nat) (B : Nat) (w : World) (hc : c.ok w B) (hB : B ≤ w.heap.size) (ha : a ≤ 60) (hb : b ≤ 60) (h4 : c.la.zs.length ≤ 4) (hz : ∀ z ∈ c.la.zs, 0 ≤ z ∧ z ≤ 255) :
    Calls Try.prog 40 #[c.val, .int .i64 a, .int .i64 b] w fun e w' => ∃ v, e = .returned v ∧ w'.ownsRow w.heap.size 3 1 v (bothGo a b c.la.zs 0).length ((bothGo a b c.la.zs 0).map fun i => Value.int .i64 ((i : Nat) : Int)) ∧ Below w.heap.size w w' := by
  obtain ⟨br, ⟨lA, ln, lc, ls⟩, tk, mi, cap⟩ := c
  obtain ⟨⟨l1, l2, l3, l4⟩, _, _⟩ := hc
  dsimp only at l1 l2 l3 l4 h4 hz
  obtain ⟨w1, hw1⟩ : ∃ w1, w1 = w.alloc (.cells #[.int .i64 br, .slice lA ln lc, .int .i64 tk, .slice mi.A mi.n mi.c, .int .i64 cap] 24) := ⟨_, rfl⟩
  have hb1 : Below w.heap.size w w1 := by rw [hw1]; exact (Below.refl _ _).alloc (Nat.le_refl _) _
  obtain ⟨p, hp⟩ : ∃ p, p = w.heap.size := ⟨_, rfl⟩
  have kb : Blk w1 p 24 #[.int .i64 br, .slice lA ln lc, .int .i64 tk, .slice mi.A mi.n mi.c, .int .i64 cap] := by rw [hw1, hp]; exact Blk.new w _ _
  have p1 : w1.cell? ⟨p, 1, none⟩ = some (.slice lA ln lc) := kb.cell 1
  obtain ⟨iI, hiI, hzI, hsI, hyI⟩ : ∃ i, Try.prog.info? 3 = some i ∧ i.zero = some (.int .i64 0) ∧ i.size = 1 ∧ i.bytes = 8 := info_of (by kernel_rfl)
  have HLR := hide ((l4.more hB))
  have HL := hide l1
  have hln : ln ≤ 4 := by omega
  have HZ := hide hz
  have HW1 := hide hw1
  have HP := hide hp
  have HB1 := hide hb1
  unfold Cfg.val
  dsimp only
  clear l1 l2 l3 l4 hz hw1 hp kb hb1 h4
  go_enter Try.func40, Try.ntmps40
  go_upto_region 1 with fail
  rw [← unhide HP, ← unhide HW1]
  go_wp2_with fail
  go_loopw [7, 13] (fun o j W => ∃ (k : Nat) (M : List Nat), k ≤ ln ∧ j = .int .i64 k ∧ Hid (M ++ bothGo a b (ls.drop k) k = bothGo a b ls 0) ∧ Hid (M.length ≤ k) ∧ Hid (W.ownsRow w.heap.size 3 1 o M.length (M.map fun i => Value.int .i64 ((i : Nat) : Int))) ∧ Below w.heap.size w W) (fun _ j _ => ln - (intOf j).toNat)
  case atStart => exact ⟨0, [], Nat.zero_le _, rfl, rfl, hide (Nat.le_refl _), World.ownsRow_nil _ _ _ _, unhide HB1⟩
  case round =>
    obtain ⟨k, M, hk, rfl, HM, HML, HO, hz⟩ := hrel
    by_cases hlt : k < ln
    · obtain ⟨b1, o1, z, rfl, hbl, hzk, hcz⟩ := at_num ((unhide HLR).below hz) hlt
      have hzz := unhide HZ z (List.mem_of_getElem? hzk)
      obtain ⟨z, rfl⟩ := Int.eq_ofNat_of_zero_le hzz.1
      have hbb := both_bits z a b (by omega)
      have HM2 := hide (show M ++ (if z.testBit a && z.testBit b then k :: bothGo a b (ls.drop (k + 1)) (k + 1) else bothGo a b (ls.drop (k + 1)) (k + 1)) = bothGo a b ls 0 by
        have h := unhide HM
        rw [drop_cons ls k z hzk, bothGo, Int.toNat_natCast] at h
        exact h)
      have hkn : (k : Int) < (ln : Int) := by omega
      clear HM hzk hbl hzz
      obtain ⟨x, hx⟩ : ∃ x, x = (z.testBit a && z.testBit b) := ⟨_, rfl⟩
      rw [← hx] at hbb HM2
      clear hx
      go_wp2_with fail
      go_quiet (fail)
      have hzd : Below w.heap.size w (wr.drewN nq) := below_drewN hz nq
      cases x
      · go_wp2_with fail
        go_roundw
        case rel => exact ⟨k + 1, M, by omega, by go_num, by simpa using HM2, hide (by have := unhide HML; omega), HO, hzd⟩
        case measure => simp [intOf]; omega
      · obtain ⟨A1, c1, rfl, _⟩ := own_slice (unhide HO)
        have hml := unhide HML
        obtain ⟨q, hq⟩ : ∃ q, q = M.length := ⟨_, rfl⟩
        rw [← hq] at HO hml
        rw [← hq]
        have HQ := hide hq
        have hmq : (q + 1) * 8 ≤ 140737488355328 := by omega
        have hs := hz.size
        have HOD := hide (show (wr.drewN nq).ownsRow w.heap.size 3 1 (.slice A1 q c1) q (M.map fun i => Value.int .i64 ((i : Nat) : Int)) from unhide HO)
        clear hq
        go_wp2_with (first
          | (at_builtin; (refine wpList_append_new _ rfl (.tmp 27) (.tmp 29) _ rfl w.heap.size 3 iI _ 1 8 Try.underlying22 hiI hzI hsI hyI rfl (by omega) (by omega) _ q _ (unhide HOD) rfl _ 1 _ rfl rfl rfl (by simp [Value.oneCell']) hmq hs ?_); intro g4 cap4 w4 hg4 hown4 hbel4 hgr4 hat4))
        have HO4 := hide (show w4.ownsRow w.heap.size 3 1 (.slice (some ⟨g4, 0, none⟩) (q + 1) cap4) (M ++ [k]).length ((M ++ [k]).map fun i => Value.int .i64 ((i : Nat) : Int)) by rw [List.length_append, List.map_append, ← unhide HQ]; simpa using hown4)
        have HB4 := hide (hbel4 _ _ (Nat.le_refl _) hzd)
        clear hown4 hbel4 hgr4 hat4 hg4
        go_roundw
        case rel => exact ⟨k + 1, M ++ [k], by omega, by go_num, hide (by have h := unhide HM2; simpa using h), hide (by rw [List.length_append, ← unhide HQ]; simp; omega), HO4, unhide HB4⟩
        case measure => simp [intOf]; omega
    · obtain rfl : k = ln := by omega
      go_wp2_with fail
      go_ret
      refine ⟨_, rfl, ?_, hz⟩
      have h := unhide HM
      rw [List.drop_of_length_le (by rw [unhide HL]; exact Nat.le_refl _), bothGo, List.append_nil] at h
      rw [← h]
      exact unhide HO
end Go.Proofs.Ytbkciniikahjhaa
