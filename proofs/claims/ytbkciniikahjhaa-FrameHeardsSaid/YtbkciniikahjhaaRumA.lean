/- frame: slot, branch, shared. Conditions: none beyond what each theorem states. -/
import Derived.Test.YtbkciniikahjhaaRumP
import Derived.Test.YtbkciniikahjhaaFrameB
import Derived.Test.YtbkciniikahjhaaOwnG
namespace Go.Proofs.Ytbkciniikahjhaa
open Go.RowKit
set_option linter.unusedVariables false

theorem i64_join (k x y : Nat) (hk : k ≤ 62) (hx : x * 2 ^ k < 9223372036854775808) (hy : y < 2 ^ k) : bits .or .i64 ((x * 2 ^ k : Nat) : Int) (y : Int) = ((x * 2 ^ k + y : Nat) : Int) := by
  have hp : (2:Nat) ^ k ≤ 2 ^ 62 := Nat.pow_le_pow_right (by omega) hk
  rw [i64_or_nat _ _ hx (by omega), nat_join k _ _ (by simp) hy]
theorem slot_val (a value time who : Nat) (ha : a ≤ 3) (v2 : value ≤ 255) (t2 : time ≤ 1048576) (w2 : who ≤ 7) :
    bits .or .i64 (wrap64 (bits .or .i64 (wrap64 (bits .or .i64 ((a * 2 ^ 8 : Nat) : Int) value * 2097152)) time * 8)) who = ((((a * 256 + value) * 2097152 + time) * 8 + who : Nat) : Int) := by
  rw [i64_join 8 a value (by omega) (by omega) (by omega)]
  rw [show wrap64 (((a * 2 ^ 8 + value : Nat) : Int) * 2097152) = (((a * 256 + value) * 2 ^ 21 : Nat) : Int) by unfold wrap64; omega]
  rw [i64_join 21 (a * 256 + value) time (by omega) (by omega) (by omega)]
  rw [show wrap64 ((((a * 256 + value) * 2 ^ 21 + time : Nat) : Int) * 8) = ((((a * 256 + value) * 2097152 + time) * 2 ^ 3 : Nat) : Int) by unfold wrap64; omega]
  rw [i64_join 3 _ who (by omega) (by omega) (by omega)]
theorem frameSlot_any (e : Ent) (w : World) (h : SlotOk e) : Calls Try.prog 41 #[entV e] w fun x w' => x = .returned (.int .i64 (slotN e)) ∧ Below w.heap.size w w' := by
  obtain ⟨⟨v1, v2⟩, ⟨t1, t2⟩, ⟨w1, w2⟩⟩ := h
  obtain ⟨key, value, time, who, gone⟩ := e
  dsimp only at v1 v2 t1 t2 w1 w2
  obtain ⟨value, rfl⟩ := Int.eq_ofNat_of_zero_le v1
  obtain ⟨time, rfl⟩ := Int.eq_ofNat_of_zero_le t1
  obtain ⟨who, rfl⟩ := Int.eq_ofNat_of_zero_le w1
  unfold entV
  dsimp only
  have hv2 : value ≤ 255 := by omega
  have ht2 : time ≤ 1048576 := by omega
  have hw2 : who ≤ 7 := by omega
  have hb : Below w.heap.size w (w.alloc (.cells #[.int .i64 key, .int .i64 value, .int .i64 time, .int .i64 who, .bool gone] 65)) := (Below.refl _ _).alloc (Nat.le_refl _) _
  have HB := hide hb
  cases gone
  · have HS := hide (slot_val 2 value time who (by omega) hv2 ht2 hw2)
    clear hb
    go_enter Try.func41, Try.ntmps41
    go_wp2_with fail
    go_ret
    exact ⟨ret_int (unhide HS), unhide HB⟩
  · have HS := hide (slot_val 3 value time who (by omega) hv2 ht2 hw2)
    clear hb
    go_enter Try.func41, Try.ntmps41
    go_wp2_with fail
    go_ret
    exact ⟨ret_int (unhide HS), unhide HB⟩
theorem branchClo_any (z : Int) (c : Cfg) (p : Nat) (w : World) (hbr : -9000000000000000000 ≤ c.br ∧ c.br ≤ 9000000000000000000) (hp : w.cell? ⟨p, 0, none⟩ = some (.int .i64 c.br)) :
    Calls Try.prog 60 #[.int .i64 z, .pointer (some ⟨p, 0, none⟩)] w fun x w' => x = .returned (.bool (!brOk c z)) ∧ w = w' := by
  obtain ⟨br, la, tk, mi, cap⟩ := c
  dsimp only at hp hbr
  have H := hide (frameIn_any z 0 (br - 1) w)
  have HF := hide (show inB z 0 (br - 1) = brOk ⟨br, la, tk, mi, cap⟩ z by unfold inB brOk; dsimp only; rw [Bool.eq_iff_iff]; simp; omega)
  obtain ⟨h1, h2⟩ := hbr
  generalize inB z 0 (br - 1) = x at H HF
  go_enter Try.func60, Try.ntmps60
  go_wp2_with fail
  refine (unhide H).mono ?_
  rintro _ _ ⟨rfl, rfl⟩
  go_wp2_with fail
  go_ret
  exact ⟨ret_bool (by rw [← unhide HF]), rfl⟩
theorem branchClo_enters (args : Array Value) (W : World) : (callFunc 60 args).run Try.prog W = .ok (.enter 60 args) W :=
  callFunc_enters Try.func60 (by kernel_rfl) rfl args W
def Cfg.cells (c : Cfg) : List Value := [.int .i64 c.br, .slice c.la.A c.la.n c.la.c, .int .i64 c.tk, .slice c.mi.A c.mi.n c.mi.c, .int .i64 c.cap]
theorem frameBranch_any (c : Cfg) (A : Option Addr) (n cc : Nat) (zs : List Int) (B : Nat) (w : World) (hbr : -9000000000000000000 ≤ c.br ∧ c.br ≤ 9000000000000000000) (hl : zs.length = n) (hm : n ≤ maxLen) (hr : Reads w B 1 A n (zs.map (.int .i64))) (hB : B ≤ w.heap.size) :
    Calls Try.prog 36 #[c.val, .slice A n cc] w fun e w' => e = .returned (.bool (zs.all (brOk c))) ∧ Below w.heap.size w w' := by
  obtain ⟨w1, hw1⟩ : ∃ w1, w1 = w.alloc (.cells c.cells.toArray 24) := ⟨_, rfl⟩
  have hb1 : Below w.heap.size w w1 := by rw [hw1]; exact (Below.refl _ _).alloc (Nat.le_refl _) _
  obtain ⟨p, hp⟩ : ∃ p, p = w.heap.size := ⟨_, rfl⟩
  have kb : Blk w1 p 24 c.cells.toArray := by rw [hw1, hp]; exact Blk.new w _ _
  have HCF := hide (intContains_any 60 #[.pointer (some ⟨p, 0, none⟩)] (fun z => !brOk c z) A n cc zs B (fun W => w1 = W) w1 hl hm (fun W hW => by rw [← hW]; exact hr.below (hb1.mono hB)) rfl branchClo_enters (fun z W _ hW => by
    rw [← hW]
    exact branchClo_any z c p w1 hbr (kb.cell 0)))
  have HF := hide (show (!zs.any fun z => !brOk c z) = zs.all (brOk c) by rw [List.any_eq_not_all_not]; simp)
  generalize (zs.any fun z => !brOk c z) = x at HCF HF
  have HW1 := hide hw1
  have HP := hide hp
  have HB := hide hb1
  clear hb1 kb hl hm hr hp hw1
  obtain ⟨br, la, tk, mi, cap⟩ := c
  unfold Cfg.cells at HW1
  unfold Cfg.val
  dsimp only at HW1 ⊢
  go_enter Try.func36, Try.ntmps36
  go_upto_region 1 with fail
  rw [← unhide HP]
  rw [show w.alloc (.cells #[.int .i64 br, .slice la.A la.n la.c, .int .i64 tk, .slice mi.A mi.n mi.c, .int .i64 cap] 24) = w1 from (unhide HW1).symm]
  go_wp2_with fail
  refine (unhide HCF).mono ?_
  rintro _ _ ⟨rfl, rfl⟩
  go_wp2_with fail
  go_ret
  exact ⟨ret_bool (unhide HF), unhide HB⟩
end Go.Proofs.Ytbkciniikahjhaa
