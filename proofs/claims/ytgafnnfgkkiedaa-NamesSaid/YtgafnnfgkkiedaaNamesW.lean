/- The walk of the law on the names of package api: it returns true. Conditions: none. -/
import Derived.Test.YtgafnnfgkkiedaaProg
import Derived.Test.YtgafnnfgkkiedaaKit
import Derived.Test.YtgafnnfgkkiedaaMem
import Derived.BigQuiet
namespace Go.Proofs.Ytgafnnfgkkiedaa
open Go.RowKit

def kindZ : List Int := [1, 2, 3, 1, 2, 3, 1, 2, 3, 4, 5, 6, 7, 1, 2, 1, 2, 3, 1, 2, 3, 1, 2, 3, 4, 5, 6, 7, 8, 9, 10, 11]
def limZ : List Int := [1048576, 8, 40, 60, 200, 8, 16, 4, 300, 20, 32, 3, 4, 8, 255]
theorem litA (k : Nat) (h : k < 13) : ([.int .i64 0, .int .i64 1, .int .i64 2, .int .i64 3, .int .i64 4, .int .i64 5, .int .i64 6, .int .i64 7, .int .i64 8, .int .i64 9, .int .i64 10, .int .i64 11, .int .i64 12] : List Value)[k]'(by simpa using h) = .int .i64 k := by
  match k, h with
  | 0, _ | 1, _ | 2, _ | 3, _ | 4, _ | 5, _ | 6, _ | 7, _ | 8, _ | 9, _ | 10, _ | 11, _ | 12, _ => rfl
theorem cell_lit {w : World} {g : Nat} {L : Array Value} {t : TypeId} {zs : List Int} (hb : Blk w g t L) (e : L.toList = zs.map (.int .i64)) (k : Nat) (h : k < zs.length) : w.cell? ⟨g, k, none⟩ = some (.int .i64 (zs.getD k 0)) := by
  rw [hb.cell, ← Array.getElem?_toList, e]
  simp [h]

/-- what the four tables hold -/
def Tables (w : World) (g : Nat) : Prop :=
  (∀ k, k < 32 → w.cell? ⟨g, k, none⟩ = some (.int .i64 (kindZ.getD k 0))) ∧ (∀ k, k < 32 → w.cell? ⟨g + 1, k, none⟩ = some (.int .i64 (kindZ.getD k 0))) ∧
  (∀ k, k < 15 → w.cell? ⟨g + 1 + 1, k, none⟩ = some (.int .i64 (limZ.getD k 0))) ∧ (∀ k, k < 15 → w.cell? ⟨g + 1 + 1 + 1, k, none⟩ = some (.int .i64 (limZ.getD k 0)))

theorem tables_laid (w : World) (g : Nat) (K L : Array Value) (t : TypeId) (hg : w.heap.size = g) (eK : K.toList = kindZ.map (.int .i64)) (eL : L.toList = limZ.map (.int .i64)) :
    Tables ((((w.alloc (.cells K t)).alloc (.cells K t)).alloc (.cells L t)).alloc (.cells L t)) g := by
  subst hg
  have s1 : (w.alloc (.cells K t)).heap.size = w.heap.size + 1 := by simp
  have s2 : ((w.alloc (.cells K t)).alloc (.cells K t)).heap.size = w.heap.size + 1 + 1 := by simp
  have s3 : (((w.alloc (.cells K t)).alloc (.cells K t)).alloc (.cells L t)).heap.size = w.heap.size + 1 + 1 + 1 := by simp
  have b1 := (((Blk.new w t K).alloc (.cells K t)).alloc (.cells L t)).alloc (.cells L t)
  have b2 := ((Blk.new (w.alloc (.cells K t)) t K).alloc (.cells L t)).alloc (.cells L t)
  have b3 := (Blk.new ((w.alloc (.cells K t)).alloc (.cells K t)) t L).alloc (.cells L t)
  have b4 := Blk.new (((w.alloc (.cells K t)).alloc (.cells K t)).alloc (.cells L t)) t L
  rw [s1] at b2
  rw [s2] at b3
  rw [s3] at b4
  exact ⟨fun k hk => cell_lit b1 eK k hk, fun k hk => cell_lit b2 eK k hk, fun k hk => cell_lit b3 eL k hk, fun k hk => cell_lit b4 eL k hk⟩

set_option maxHeartbeats 400000 in
theorem walk_Names (w : World) :
    Calls Try.prog 3 #[] w fun e w' => e = .returned (.bool true) ∧ Below w.heap.size w w' := by
  go_enter Try.func3, Try.ntmps3
  go_wp2
  go_loop [2] (fun i => ∃ k : Nat, k ≤ 13 ∧ i = .int .i64 k) (fun i => 13 - (intOf i).toNat)
  case atStart => exact ⟨0, by omega, rfl⟩
  case round =>
    obtain ⟨k, hk, rfl⟩ := hrel
    by_cases hlt : k < 13
    · have e1 := litA k hlt
      go_wp2_with fail
      go_round
      case rel => exact ⟨k + 1, by omega, by go_num⟩
      case measure => simp [intOf]; omega
    · obtain rfl : k = 13 := by omega
      go_wp2
      go_loopw [7] (fun i wr => ∃ k : Nat, k ≤ 32 ∧ i = .int .i64 k ∧ Below w.heap.size w wr ∧ Tables wr (w.heap.size + 1)) (fun i _ => 32 - (intOf i).toNat)
      case atStart => exact ⟨0, by omega, rfl, by repeat (first | exact Below.refl _ _ | refine Below.alloc ?_ (by simp <;> omega) _), tables_laid _ _ _ _ _ (by simp) rfl rfl⟩
      case round =>
        obtain ⟨k, hk, rfl, hb, ht⟩ := hrel
        have HT := hide ht
        clear ht
        have HB := hide hb
        clear hb
        by_cases hlt : k < 32
        · have c1 := (unhide HT).1 k hlt
          have c2 := (unhide HT).2.1 k hlt
          go_wp2_with fail
          go_quiet (fail)
          go_wp2_with fail
          go_roundw
          case rel => exact ⟨k + 1, by omega, by go_num, below_drewN (unhide HB) _, unhide HT⟩
          case measure => simp [intOf]; omega
        · obtain rfl : k = 32 := by omega
          go_wp2_with fail
          go_loopw [8] (fun i wr => ∃ k : Nat, k ≤ 15 ∧ i = .int .i64 k ∧ Below w.heap.size w wr ∧ Tables wr (w.heap.size + 1)) (fun i _ => 15 - (intOf i).toNat)
          case atStart => exact ⟨0, by omega, rfl, unhide HB, unhide HT⟩
          case round =>
            obtain ⟨k, hk, rfl, hb, ht⟩ := hrel
            have HT2 := hide ht
            clear ht
            have HB2 := hide hb
            clear hb
            by_cases hlt : k < 15
            · have c1 := (unhide HT2).2.2.1 k hlt
              have c2 := (unhide HT2).2.2.2 k hlt
              go_wp2_with fail
              go_quiet (fail)
              go_wp2_with fail
              go_roundw
              case rel => exact ⟨k + 1, by omega, by go_num, below_drewN (unhide HB2) _, unhide HT2⟩
              case measure => simp [intOf]; omega
            · obtain rfl : k = 15 := by omega
              go_wp2
              go_ret
              exact ⟨by simp, unhide HB2⟩
end Go.Proofs.Ytgafnnfgkkiedaa
