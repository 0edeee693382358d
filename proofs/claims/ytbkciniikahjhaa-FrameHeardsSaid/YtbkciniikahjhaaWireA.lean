/- Contracts of wire.Size and of the reference's WireSize: what each returns. Conditions: none beyond what each theorem states. -/
import Derived.Test.YtbkciniikahjhaaProg
import Derived.Test.YtbkciniikahjhaaKit
import Derived.Test.YtbkciniikahjhaaMem
import Derived.BigQuiet
namespace Go.Proofs.Ytbkciniikahjhaa
open Go.RowKit
set_option linter.unusedVariables false

def szGo : List Int → Int → Int × Int
  | [], b => ((b + 7) / 8, 0)
  | z :: l, b => if z < 1 ∨ 60 < z then (0, 2) else szGo l (b + z)
def sizeP (zs : List Int) : Int × Int := if 40 < zs.length then (0, 1) else szGo zs 0

theorem wireSize_any (A : Option Addr) (n c : Nat) (zs : List Int) (B : Nat) (w : World) (hl : zs.length = n) (hm : n ≤ 9223372036854775807) (hr : Reads w B 1 A n (zs.map (.int .i64))) :
    Calls Try.prog 55 #[.slice A n c] w fun e w' => e = .returned (.tuple #[.int .i64 (sizeP zs).1, .int .i64 (sizeP zs).2]) ∧ w = w' := by
  have HR := hide hr
  clear hr
  have HL := hide hl
  clear hl
  by_cases h40 : 40 < n
  · have HF := hide (show sizeP zs = (0, 1) by unfold sizeP; rw [unhide HL, if_pos h40])
    go_enter Try.func55, Try.ntmps55
    go_wp2_with fail
    go_ret2
    exact ⟨by rw [unhide HF]; rfl, rfl⟩
  · have HF := hide (show sizeP zs = szGo zs 0 by unfold sizeP; rw [unhide HL, if_neg h40])
    have h40' : n ≤ 40 := by omega
    clear h40
    go_enter Try.func55, Try.ntmps55
    go_wp2_with fail
    go_loop [4, 12] (fun b i => ∃ (k : Nat) (b0 : Nat), k ≤ n ∧ i = .int .i64 k ∧ b = .int .i64 b0 ∧ b0 ≤ 60 * k ∧ Hid (szGo (zs.drop k) b0 = szGo zs 0)) (fun _ i => n - (intOf i).toNat)
    case atStart => exact ⟨0, 0, Nat.zero_le _, rfl, rfl, by omega, rfl⟩
    case round =>
      obtain ⟨k, b0, hk, rfl, rfl, hb, HI⟩ := hrel
      by_cases hlt : k < n
      · obtain ⟨ad, u, rfl, _, hz, hc⟩ := at_kind (unhide HR) hlt
        have HI2 := hide (by have h := unhide HI; rw [drop_cons zs k u hz, szGo] at h; exact h)
        clear HI hz
        by_cases h1 : u < 1 ∨ 60 < u
        · have HG := hide (by have h := unhide HI2; rw [if_pos h1] at h; exact h)
          clear HI2
          rcases h1 with h1 | h1
          all_goals
            go_wp2_with fail
            go_ret2
            exact ⟨by rw [unhide HF, ← unhide HG]; rfl, rfl⟩
        · have HG := hide (by have h := unhide HI2; rw [if_neg h1] at h; exact h)
          clear HI2
          obtain ⟨u, rfl⟩ := Int.eq_ofNat_of_zero_le (show 0 ≤ u by omega)
          have h2 : 1 ≤ u := by omega
          have h3 : u ≤ 60 := by omega
          clear h1
          go_wp2_with fail
          go_round
          case rel => exact ⟨k + 1, b0 + u, by omega, by go_num, by go_num, by omega, unhide HG⟩
          case measure => simp [intOf]; omega
      · obtain rfl : k = n := by omega
        have HG := hide (by have h := unhide HI; rw [List.drop_of_length_le (by rw [unhide HL]; exact Nat.le_refl _), szGo] at h; exact h)
        clear HI
        go_wp2_with fail
        go_ret2
        exact ⟨by rw [unhide HF, ← unhide HG]; rfl, rfl⟩

theorem wireSize_ref (A : Option Addr) (n c : Nat) (zs : List Int) (B : Nat) (w : World) (hl : zs.length = n) (hm : n ≤ 9223372036854775807) (hr : Reads w B 1 A n (zs.map (.int .i64))) :
    Calls Try.prog 57 #[.slice A n c] w fun e w' => e = .returned (.tuple #[.int .i64 (sizeP zs).1, .int .i64 (sizeP zs).2]) ∧ w = w' := by
  have HR := hide hr
  clear hr
  have HL := hide hl
  clear hl
  by_cases h40 : 40 < n
  · have HF := hide (show sizeP zs = (0, 1) by unfold sizeP; rw [unhide HL, if_pos h40])
    go_enter Try.func57, Try.ntmps57
    go_wp2_with fail
    go_ret2
    exact ⟨by rw [unhide HF]; rfl, rfl⟩
  · have HF := hide (show sizeP zs = szGo zs 0 by unfold sizeP; rw [unhide HL, if_neg h40])
    have h40' : n ≤ 40 := by omega
    clear h40
    go_enter Try.func57, Try.ntmps57
    go_wp2_with fail
    go_loop [4, 13] (fun b i => ∃ (k : Nat) (b0 : Nat), k ≤ n ∧ i = .int .i64 k ∧ b = .int .i64 b0 ∧ b0 ≤ 60 * k ∧ Hid (szGo (zs.drop k) b0 = szGo zs 0)) (fun _ i => n - (intOf i).toNat)
    case atStart => exact ⟨0, 0, Nat.zero_le _, rfl, rfl, by omega, rfl⟩
    case round =>
      obtain ⟨k, b0, hk, rfl, rfl, hb, HI⟩ := hrel
      by_cases hlt : k < n
      · obtain ⟨ad, u, rfl, _, hz, hc⟩ := at_kind (unhide HR) hlt
        have HI2 := hide (by have h := unhide HI; rw [drop_cons zs k u hz, szGo] at h; exact h)
        clear HI hz
        by_cases h1 : u < 1 ∨ 60 < u
        · have HG := hide (by have h := unhide HI2; rw [if_pos h1] at h; exact h)
          clear HI2
          rcases h1 with h1 | h1
          all_goals
            go_wp2_with fail
            go_ret2
            exact ⟨by rw [unhide HF, ← unhide HG]; rfl, rfl⟩
        · have HG := hide (by have h := unhide HI2; rw [if_neg h1] at h; exact h)
          clear HI2
          obtain ⟨u, rfl⟩ := Int.eq_ofNat_of_zero_le (show 0 ≤ u by omega)
          have h2 : 1 ≤ u := by omega
          have h3 : u ≤ 60 := by omega
          clear h1
          go_wp2_with fail
          go_round
          case rel => exact ⟨k + 1, b0 + u, by omega, by go_num, by go_num, by omega, unhide HG⟩
          case measure => simp [intOf]; omega
      · obtain rfl : k = n := by omega
        have HG := hide (by have h := unhide HI; rw [List.drop_of_length_le (by rw [unhide HL]; exact Nat.le_refl _), szGo] at h; exact h)
        clear HI
        go_wp2_with fail
        go_loop [7] (fun t => ∃ t0 : Nat, 8 * t0 ≤ b0 + 7 ∧ t = .int .i64 t0) (fun t => (b0 + 7) / 8 - (intOf t).toNat)
        case atStart => exact ⟨0, by omega, rfl⟩
        case round =>
          obtain ⟨t0, ht, rfl⟩ := hrel
          by_cases hlt2 : 8 * t0 < b0
          · go_wp2_with fail
            go_round
            case rel => exact ⟨t0 + 1, by omega, by go_num⟩
            case measure => simp [intOf]; omega
          · have HE := hide (show ((t0 : Nat) : Int) = ((b0 : Int) + 7) / 8 by omega)
            go_wp2_with fail
            go_ret2
            exact ⟨by rw [unhide HF, ← unhide HG, ← unhide HE]; rfl, rfl⟩
end Go.Proofs.Ytbkciniikahjhaa
