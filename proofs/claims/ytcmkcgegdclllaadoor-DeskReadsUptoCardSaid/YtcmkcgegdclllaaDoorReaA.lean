/- Contract of the reference's undeci. Conditions: none beyond what each theorem states. -/
import Derived.Test.YtcmkcgegdclllaaDoorReaP
namespace Go.Proofs.YtcmkcgegdclllaaDoor
open Go.RowKit
set_option linter.unusedVariables false

theorem bstr_get (L : List UInt8) (i : Nat) (h : i < L.length) (W : World) : (Instr.index 9 (.string (bstr L)) (.int .i64 (i : Int))).run Tryd.prog W = .ok (.int .u8 ((L[i]'h).toNat : Int)) W := by
  rw [run_index_string W 9 (bstr L) .i64 (i : Int) Tryd.underlying9, dif_pos ⟨by omega, by rw [bstr_size]; omega⟩]
  congr 3
theorem bstr_get0 (L : List UInt8) (h : 0 < L.length) (W : World) : (Instr.index 9 (.string (bstr L)) (.int .i64 0)).run Tryd.prog W = .ok (.int .u8 ((L[0]'h).toNat : Int)) W := bstr_get L 0 h W
theorem uGo_skip {L : List UInt8} {i : Nat} {c : UInt8} {z : Int} (hcut : L.drop i = c :: L.drop (i + 1)) (H : uGo (negL L) i z (L.drop i) = uGo (negL L) 0 0 L) (h0 : i = 0) (hc : c.toNat = 45) : uGo (negL L) (i + 1) z (L.drop (i + 1)) = uGo (negL L) 0 0 L := by
  rw [hcut, uGo, if_pos ⟨h0, hc⟩] at H
  exact H
theorem uGo_bad {L : List UInt8} {i : Nat} {c : UInt8} {z : Int} (hcut : L.drop i = c :: L.drop (i + 1)) (H : uGo (negL L) i z (L.drop i) = uGo (negL L) 0 0 L) (h0 : ¬ (i = 0 ∧ c.toNat = 45)) (hc : c.toNat < 48 ∨ 57 < c.toNat ∨ 20 < i) : undP L = (0, false) := by
  rw [hcut, uGo, if_neg h0, if_pos hc] at H
  unfold undP
  rw [← H]
theorem uGo_go {L : List UInt8} {i : Nat} {c : UInt8} {z : Int} (hcut : L.drop i = c :: L.drop (i + 1)) (H : uGo (negL L) i z (L.drop i) = uGo (negL L) 0 0 L) (h0 : ¬ (i = 0 ∧ c.toNat = 45)) (hc : ¬ (c.toNat < 48 ∨ 57 < c.toNat ∨ 20 < i)) : uGo (negL L) (i + 1) (uStep (negL L) z c) (L.drop (i + 1)) = uGo (negL L) 0 0 L := by
  rw [hcut, uGo, if_neg h0, if_neg hc] at H
  exact H
theorem wrap_i64 (x : Int) : I64 (wrap64 x) := by
  unfold I64 wrap64
  omega
set_option maxRecDepth 100000 in
set_option maxHeartbeats 4000000 in
theorem undeci_any (L : List UInt8) (w : World) (hL : L.length ≤ 9223372036854775000) :
    Calls Tryd.prog 26 #[.string (bstr L)] w fun e w' => e = .returned (.tuple #[.int .i64 (undP L).1, .bool (undP L).2]) ∧ w = w' := by
  have hsz : (bstr L).size = L.length := bstr_size L
  go_enter Tryd.func26, Tryd.ntmps26
  go_wp2_with fail
  go_loop [4, 5] (fun x s => ∃ (z : Int) (i : Nat), x = .int .i64 z ∧ s = .int .i64 i ∧ i ≤ L.length ∧ I64 z ∧ Hid (uGo (negL L) i z (L.drop i) = uGo (negL L) 0 0 L)) (fun _ s => L.length - (intOf s).toNat)
  case atStart => exact ⟨0, 0, rfl, rfl, by omega, by unfold I64; omega, hide rfl⟩
  case round =>
    obtain ⟨z, i, rfl, rfl, hi, hz, HU⟩ := hrel
    by_cases hlt : i < L.length
    · have hlt2 : i < (bstr L).size := by omega
      have hcut := hide (List.drop_eq_getElem_cons hlt)
      have hG := bstr_get L i hlt
      have h0L : 0 < L.length := by omega
      have hG0 := bstr_get0 L h0L
      have hneg := hide (show negL L = decide ((L[0]'h0L).toNat = 45) from by
        cases L with
        | nil => simp at h0L
        | cons c r =>
          simp only [negL, List.head?_cons, List.getElem_cons_zero]
          by_cases hc : c = 45
          · subst hc; rfl
          · have : ¬ c.toNat = 45 := fun e => hc (UInt8.toNat_inj.1 e)
            simp [this, hc])
      have hi0 := hide (show i = 0 → L[i] = L[0] from fun e => by subst e; rfl)
      generalize L[i]'hlt = c at hG hcut hi0
      generalize L[0]'h0L = c0 at hG0 hneg hi0
      have HZ := hide hz
      have HL := hide hL
      have HS := hide hsz
      have HI := hide hlt
      obtain ⟨S, hS⟩ : ∃ S, S = bstr L := ⟨_, rfl⟩
      rw [← hS] at hlt2 hG hG0 ⊢
      have HS2 := hide hS
      clear hz hi hsz hL hlt h0L hS
      obtain ⟨kc, hkc⟩ : ∃ k : Int, k = (c.toNat : Int) := ⟨_, rfl⟩
      obtain ⟨k0, hk0⟩ : ∃ k : Int, k = (c0.toNat : Int) := ⟨_, rfl⟩
      rw [← hkc] at hG
      rw [← hk0] at hG0
      have HKC := hide hkc
      have HK0 := hide hk0
      clear hkc hk0
      by_cases hA : i = 0
      · subst hA
        have hcc : c = c0 := UInt8.toNat_inj.1 (congrArg UInt8.toNat (unhide hi0 rfl))
        have HC := hide hcc
        clear hcc
        by_cases hB : k0 = 45
        · go_wp2_with fail
          go_round
          case rel => exact ⟨z, 1, rfl, by simp, by have := unhide HI; omega, unhide HZ, hide (uGo_skip (unhide hcut) (unhide HU) rfl (by have := unhide HK0; rw [unhide HC]; omega))⟩
          case measure => have := unhide HI; simp [intOf]; omega
        · have hN : ¬ (c.toNat = 45) := fun h => hB (by have := unhide HK0; rw [unhide HC] at h; omega)
          have HN := hide hN
          clear hN
          by_cases hC : k0 < 48
          · go_wp2_with fail
            go_ret2
            exact ⟨by rw [uGo_bad (unhide hcut) (unhide HU) (fun h => unhide HN h.2) (Or.inl (by have := unhide HK0; rw [unhide HC]; omega))]; rfl, rfl⟩
          · by_cases hD : 57 < k0
            · go_wp2_with fail
              go_ret2
              exact ⟨by rw [uGo_bad (unhide hcut) (unhide HU) (fun h => unhide HN h.2) (Or.inr (Or.inl (by have := unhide HK0; rw [unhide HC]; omega)))]; rfl, rfl⟩
            · go_wp2_with fail
              go_round
              case rel =>
                refine ⟨_, 1, rfl, by simp, by have := unhide HI; omega, wrap_i64 _, hide ?_⟩
                have hg := uGo_go (unhide hcut) (unhide HU) (fun h => unhide HN h.2) (by have := unhide HK0; rw [unhide HC]; omega)
                have hn : negL L = false := by rw [unhide hneg]; simpa using fun e => hB (by have := unhide HK0; omega)
                rw [unhide HC] at hg
                unfold uStep at hg
                rw [hn] at hg ⊢
                rw [if_neg (by simp), ← unhide HK0] at hg
                exact hg
              case measure => have := unhide HI; simp [intOf]; omega
      · have hA1 : ¬ ((i : Int) = 0) := by omega
        have HN := hide (show ¬ (i = 0 ∧ c.toNat = 45) from fun h => hA h.1)
        by_cases hC : kc < 48
        · go_wp2_with fail
          go_ret2
          exact ⟨by rw [uGo_bad (unhide hcut) (unhide HU) (unhide HN) (Or.inl (by have := unhide HKC; omega))]; rfl, rfl⟩
        · by_cases hD : 57 < kc
          · go_wp2_with fail
            go_ret2
            exact ⟨by rw [uGo_bad (unhide hcut) (unhide HU) (unhide HN) (Or.inr (Or.inl (by have := unhide HKC; omega)))]; rfl, rfl⟩
          · by_cases hE : 20 < (i : Int)
            · go_wp2_with fail
              go_ret2
              exact ⟨by rw [uGo_bad (unhide hcut) (unhide HU) (unhide HN) (Or.inr (Or.inr (by omega)))]; rfl, rfl⟩
            · have HG := hide (uGo_go (unhide hcut) (unhide HU) (unhide HN) (by have := unhide HKC; omega))
              by_cases hB : k0 = 45
              · go_wp2_with fail
                go_round
                case rel =>
                  refine ⟨_, i + 1, rfl, by simp, by have := unhide HI; omega, wrap_i64 _, hide ?_⟩
                  have hg := unhide HG
                  have hn : negL L = true := by rw [unhide hneg]; simpa using (by have := unhide HK0; omega)
                  unfold uStep at hg
                  rw [hn] at hg ⊢
                  rw [if_pos rfl, ← unhide HKC] at hg
                  exact hg
                case measure => have := unhide HI; simp [intOf]; omega
              · go_wp2_with fail
                go_round
                case rel =>
                  refine ⟨_, i + 1, rfl, by simp, by have := unhide HI; omega, wrap_i64 _, hide ?_⟩
                  have hg := unhide HG
                  have hn : negL L = false := by rw [unhide hneg]; simpa using fun e => hB (by have := unhide HK0; omega)
                  unfold uStep at hg
                  rw [hn] at hg ⊢
                  rw [if_neg (by simp), ← unhide HKC] at hg
                  exact hg
                case measure => have := unhide HI; simp [intOf]; omega
    · have hie : i = L.length := by omega
      have hu : undP L = (z, Lib.itoa z == L) := by
        have h := unhide HU
        rw [hie, List.drop_length] at h
        unfold undP
        rw [← h]
        rfl
      have HR := hide hu
      clear hu
      have hlt2 : ¬ i < (bstr L).size := by omega
      have HZ := hide hz
      have HD := hide (fun W => deci_any z W (unhide HZ).1 (unhide HZ).2)
      obtain ⟨S, hS⟩ : ∃ S, S = bstr L := ⟨_, rfl⟩
      obtain ⟨T, hT⟩ : ∃ T, T = bstr (Lib.itoa z) := ⟨_, rfl⟩
      have HE := show (T.toList == S.toList) = (Lib.itoa z == L) by rw [hS, hT]; simp [bstr]
      rw [← hS] at hlt2 ⊢
      rw [← hT] at HD
      clear hz hie hlt hi hsz hL HU hS hT
      go_wp2_with fail
      refine (unhide HD _).mono ?_
      rintro _ _ ⟨rfl, rfl⟩
      go_wp2_with fail
      go_ret2
      exact ⟨by rw [unhide HR]; rfl, rfl⟩
end Go.Proofs.YtcmkcgegdclllaaDoor
