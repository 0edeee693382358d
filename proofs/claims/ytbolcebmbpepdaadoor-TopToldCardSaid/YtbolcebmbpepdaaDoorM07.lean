/- Contracts and plain facts, set together by program out of smaller texts. Conditions: none beyond what each theorem states. -/
import Derived.Test.YtbolcebmbpepdaaDoorM06
import Derived.Test.YtbolcebmbpepdaaDoorM01
import Derived.Test.YtbolcebmbpepdaaDoorM02
import Derived.Test.YtbolcebmbpepdaaDoorM05
import Derived.Test.YtbolcebmbpepdaaDoorM03
namespace Go.Proofs.YtbolcebmbpepdaaDoor
set_option linter.unusedVariables false
section
open Go.RowKit
def fv (f : Nat → Nat) (s : Nat) : Nat → Nat
  | 0 => 0
  | k + 1 => 2 * fv f s k + f (s + k)
theorem fv_lt (f : Nat → Nat) (hf : ∀ k, f k ≤ 1) (s k : Nat) : fv f s k < 2 ^ k := by
  induction k with
  | zero => simp [fv]
  | succ k ih => rw [fv, Nat.pow_succ]; have := hf (s + k); omega
theorem fv_bit (f : Nat → Nat) (hf : ∀ k, f k ≤ 1) (s w j : Nat) (hj : j < w) : fv f s w / 2 ^ (w - 1 - j) % 2 = f (s + j) := by
  induction w with
  | zero => omega
  | succ w ih =>
    rw [fv]
    have hb := hf (s + w)
    by_cases e : j = w
    · subst e
      simp
      omega
    · rw [show w + 1 - 1 - j = (w - 1 - j) + 1 by omega, Nat.pow_succ, Nat.mul_comm (2 ^ (w - 1 - j)) 2, ← Nat.div_div_eq_div_mul, show (2 * fv f s w + f (s + w)) / 2 = fv f s w by omega]
      exact ih (by omega)
theorem bitsVal_fv (bs : List Nat) (s k : Nat) : bitsVal bs s k = fv (fun j => bs.getD j 0) s k := by
  induction k with
  | zero => rfl
  | succ k ih => rw [bitsVal, fv, ih]
def bitB (bs : List Int) (k : Nat) : Nat := (bs.getD (k / 8) 0).toNat / 2 ^ (7 - k % 8) % 2
theorem bitB_le (bs : List Int) (k : Nat) : bitB bs k ≤ 1 := by unfold bitB; omega
def valsB (bs : List Int) : List Int → Nat → List Int
  | [], _ => []
  | z :: ws, at0 => (fv (bitB bs) at0 z.toNat : Int) :: valsB bs ws (at0 + z.toNat)
def totalW (ws : List Int) : Nat := (ws.map Int.toNat).sum
def tailOk (bs : List Int) (s e : Nat) : Bool := decide (∀ k, k < e → s ≤ k → bitB bs k = 0)
def unpackP (ws bs : List Int) : List Int × Int :=
  if (sizeP ws).2 ≠ 0 then ([], (sizeP ws).2) else if (bs.length : Int) ≠ (sizeP ws).1 then ([], 4) else if tailOk bs (totalW ws) (8 * bs.length) then (valsB bs ws 0, 0) else ([], 4)
end
section
open Go.RowKit
theorem take_val (z r : Nat) (hz : z ≤ 255) (hr : r ≤ 7) : bits .and .i64 ((z : Int) / 2 ^ r) 1 = ((z / 2 ^ r % 2 : Nat) : Int) := by
  have e : ((z:Int) / 2 ^ r) = ((z / 2 ^ r : Nat) : Int) := by simp
  have hd : z / 2 ^ r ≤ z := Nat.div_le_self _ _
  rw [e, show (1:Int) = ((1:Nat):Int) from rfl, i64_and_nat _ _ (by omega) (by omega), Nat.and_one_is_mod]
theorem stripTake_any (g b o : Nat) (m c at0 z : Nat) (w : World) (hw : at0 / 8 < m) (hc : m ≤ c) (hat : at0 ≤ 1000000) (hz : z ≤ 255)
    (c0 : w.cell? ⟨g, 0, none⟩ = some (.slice (some ⟨b, o, none⟩) m c)) (c1 : w.cell? ⟨g, 1, none⟩ = some (.int .i64 at0)) (c2 : w.cell? ⟨b, o + at0 / 8, none⟩ = some (.int .u8 z))
    (f1 : w.frozen? ⟨g, 1, none⟩ = false) :
    Calls Tryd.prog 81 #[.pointer (some ⟨g, 0, none⟩)] w fun e w' => e = .returned (.int .i64 ((z / 2 ^ (7 - at0 % 8) % 2 : Nat) : Int)) ∧ (w.setCell ⟨g, 1, none⟩ (.int .i64 (at0 + 1))).drew = w' := by
  have hv := take_val z (7 - at0 % 8) hz (by omega)
  have hz2 : (0 : Int) ≤ (z : Int) / 2 ^ (7 - at0 % 8) ∧ (z : Int) / 2 ^ (7 - at0 % 8) ≤ 255 := by
    have e : ((z:Int) / 2 ^ (7 - at0 % 8)) = ((z / 2 ^ (7 - at0 % 8) : Nat) : Int) := by simp
    have hd : z / 2 ^ (7 - at0 % 8) ≤ z := Nat.div_le_self _ _
    rw [e]
    exact ⟨Int.natCast_nonneg _, Int.ofNat_le.2 (Nat.le_trans hd hz)⟩
  go_enter Tryd.func81, Tryd.ntmps81
  go_wp2_with fail
  go_region
  go_wp2
  go_ret
  exact ⟨rfl, rfl⟩
end
section
open Go.RowKit
theorem stripTake_at (w : World) (B g : Nat) (A : Option Addr) (N c at0 : Nat) (bs : List Int) (hb : Blk w g 155 #[.slice A N c, .int .i64 at0]) (hr : Reads w B 1 A N (bs.map (.int .u8))) (hl : bs.length = N)
    (hn : at0 / 8 < N) (hc : N ≤ c) (hat : at0 ≤ 1000000) (hz : ∀ z ∈ bs, 0 ≤ z ∧ z ≤ 255) :
    Calls Tryd.prog 81 #[.pointer (some ⟨g, 0, none⟩)] w fun e w' => e = .returned (.int .i64 (bitB bs at0)) ∧ Blk w' g 155 #[.slice A N c, .int .i64 ((at0 + 1 : Nat) : Int)] ∧ w.grownBy w' (some g) := by
  obtain ⟨b, o, z, rfl, hbB, hz2, hcell⟩ := at_num hr hn
  obtain ⟨z, rfl⟩ := Int.eq_ofNat_of_zero_le (hz z (List.mem_of_getElem? hz2)).1
  have hz255 := (hz _ (List.mem_of_getElem? hz2)).2
  refine (stripTake_any g b o N c at0 z w hn hc hat (by omega) (by rw [hb.cell]; rfl) (by rw [hb.cell]; rfl) hcell (hb.frozen 1)).mono ?_
  rintro e w' ⟨rfl, rfl⟩
  refine ⟨?_, ?_, ?_⟩
  · have : bs.getD (at0 / 8) 0 = (z : Int) := by rw [List.getD_eq_getElem?_getD, hz2]; rfl
    unfold bitB
    rw [this]; rfl
  · exact (hb.set_ 1 _).drew
  · exact only_drew (only_setCell (World.grownBy.refl w _) (.inl rfl) _)
theorem valsB_get (bs ws : List Int) (a k : Nat) (z : Int) (h : ws[k]? = some z) : (valsB bs ws a)[k]? = some (fv (bitB bs) (a + totalW (ws.take k)) z.toNat : Int) := by
  induction ws generalizing a k with
  | nil => simp at h
  | cons y ws ih =>
    cases k with
    | zero => simp at h; subst h; simp [valsB, totalW]
    | succ k =>
      simp at h
      rw [valsB, List.getElem?_cons_succ, ih _ _ h]
      simp [totalW, Nat.add_assoc]
theorem valsB_len (bs ws : List Int) (a : Nat) : (valsB bs ws a).length = ws.length := by
  induction ws generalizing a with
  | nil => rfl
  | cons y ws ih => simp [valsB, ih]
theorem totalW_snoc (ws : List Int) (k : Nat) (z : Int) (h : ws[k]? = some z) : totalW (ws.take (k + 1)) = totalW (ws.take k) + z.toNat := by
  rw [take_snoc ws k z h]; simp [totalW]
theorem totalW_take_le (ws : List Int) (k : Nat) : totalW (ws.take k) ≤ totalW ws := by
  have e : totalW ws = totalW (ws.take k) + totalW (ws.drop k) := by
    unfold totalW
    rw [← List.sum_append, ← List.map_append, List.take_append_drop]
  omega
def vcells (bs ws : List Int) (k : Nat) : List Value := ((valsB bs ws 0).take k).map (Value.int .i64)
theorem vcells_succ (bs ws : List Int) (k : Nat) (z : Int) (h : ws[k]? = some z) : vcells bs ws (k + 1) = vcells bs ws k ++ [.int .i64 (fv (bitB bs) (totalW (ws.take k)) z.toNat : Int)] := by
  have := valsB_get bs ws 0 k z h
  rw [Nat.zero_add] at this
  simp [vcells, take_snoc _ k _ this]
theorem vcells_all (bs ws : List Int) : vcells bs ws ws.length = (valsB bs ws 0).map (Value.int .i64) := by
  unfold vcells; rw [List.take_of_length_le (by rw [valsB_len]; exact Nat.le_refl _)]
def UnpPost (ws bs : List Int) (W : World) (e : Ending) (w : World) : Prop := ∃ v, e = .returned (.tuple #[v, .int .i64 (unpackP ws bs).2]) ∧ w.ownsRow W.heap.size 3 1 v (unpackP ws bs).1.length ((unpackP ws bs).1.map (.int .i64)) ∧ Below W.heap.size W w
theorem or_bit (v b : Nat) (hv : v ≤ 1152921504606846976) (hb : b ≤ 1) : bits .or .i64 ((v : Int) * 2) (b : Int) = ((2 * v + b : Nat) : Int) := by
  rw [show (v : Int) * 2 = ((v * 2 : Nat) : Int) by simp, i64_or_nat _ _ (by omega) (by omega), nat_join 1 (v * 2) b (by omega) (by omega), Nat.mul_comm]
set_option maxHeartbeats 800000 in
set_option maxRecDepth 100000 in
theorem wireUnpack_any (A : Option Addr) (n c : Nat) (ws : List Int) (A' : Option Addr) (n' c' : Nat) (bs : List Int) (w : World) (hl : ws.length = n) (hm : n ≤ 9223372036854775807) (hr : Reads w w.heap.size 1 A n (ws.map (.int .i64)))
    (hl' : bs.length = n') (hm' : n' ≤ 9223372036854775807) (hc' : n' ≤ c') (hr' : Reads w w.heap.size 1 A' n' (bs.map (.int .u8))) (hz : ∀ z ∈ bs, 0 ≤ z ∧ z ≤ 255) :
    Calls Tryd.prog 59 #[.slice A n c, .slice A' n' c'] w (UnpPost ws bs w) := by
  obtain ⟨i0, hi, hz0, hz1, hz2⟩ := info_parts info_int
  have HR := hide hr
  have HR' := hide hr'
  have HL := hide hl
  have HL' := hide hl'
  have HZ := hide hz
  have HC := hide (wireSize_any A n c ws _ w hl hm hr)
  clear hr hr' hz
  rcases sizeP_cases ws with hs | hs | ⟨N, hs, h40, hw60, hN⟩
  · have HC2 := hide (by have h := unhide HC; rw [hs] at h; exact h)
    have HP := hide (show unpackP ws bs = ([], 1) by unfold unpackP; rw [hs]; rfl)
    clear HC hs hl hl'
    go_enter Tryd.func59, Tryd.ntmps59
    go_wp2_with fail
    refine (unhide HC2).mono ?_
    rintro e w' ⟨rfl, rfl⟩
    go_wp2_with fail
    go_ret2
    exact ⟨_, by rw [unhide HP]; rfl, by rw [unhide HP]; exact ⟨World.ownsRow_nil _ _ _ _, Below.refl _ _⟩⟩
  · have HC2 := hide (by have h := unhide HC; rw [hs] at h; exact h)
    have HP := hide (show unpackP ws bs = ([], 2) by unfold unpackP; rw [hs]; rfl)
    clear HC hs hl hl'
    go_enter Tryd.func59, Tryd.ntmps59
    go_wp2_with fail
    refine (unhide HC2).mono ?_
    rintro e w' ⟨rfl, rfl⟩
    go_wp2_with fail
    go_ret2
    exact ⟨_, by rw [unhide HP]; rfl, by rw [unhide HP]; exact ⟨World.ownsRow_nil _ _ _ _, Below.refl _ _⟩⟩
  · have HC2 := hide (by have h := unhide HC; rw [hs] at h; exact h)
    have hu : unpackP ws bs = if ((bs.length : Nat) : Int) ≠ N then ([], 4) else if tailOk bs (totalW ws) (8 * bs.length) then (valsB bs ws 0, 0) else ([], 4) := by unfold unpackP; rw [hs]; simp
    by_cases hne : n' = N
    · have HP := hide (show unpackP ws bs = if tailOk bs (totalW ws) (8 * N) then (valsB bs ws 0, 0) else ([], 4) by rw [hu, if_neg (by rw [hl', hne]; simp), hl', hne])
      have hT : totalW ws ≤ 8 * N := by unfold totalW; omega
      have hN4 : N ≤ 300 := by have := sum_le ws hw60; omega
      have hn40 : n ≤ 40 := by omega
      have HW60 := hide hw60
      subst hne
      clear HC hs hl hl' hu hN hw60 h40
      go_enter Tryd.func59, Tryd.ntmps59
      go_wp2_with fail
      refine (unhide HC2).mono ?_
      rintro e w' ⟨rfl, rfl⟩
      go_wp2_with fail
      go_loopw [9, 30] (fun v i wr => ∃ (k : Nat), k ≤ n ∧ i = .int .i64 k ∧ wr.ownsRow w.heap.size 3 1 v k (vcells bs ws k) ∧ Blk wr w.heap.size 155 #[.slice A' n' c', .int .i64 (totalW (ws.take k))] ∧ Below w.heap.size w wr) (fun _ i _ => n - (intOf i).toNat)
      case atStart => exact ⟨0, Nat.zero_le _, rfl, World.ownsRow_nil _ _ _ _, by simpa [totalW] using Blk.new w _ _, (Below.refl _ _).alloc (Nat.le_refl _) _⟩
      case round =>
        obtain ⟨k, hk, rfl, hown, hblk, hb⟩ := hrel
        have HOWN := hide hown
        have HBLK := hide hblk
        have HB := hide hb
        have hszr := hb.size
        clear hown hblk
        by_cases hlt : k < n
        · obtain ⟨b, o, z, rfl, hab, hf, hc0⟩ := at_num ((unhide HR).below hb) hlt
          have hwd := unhide HW60 z (List.mem_of_getElem? hf)
          obtain ⟨wd, rfl⟩ := Int.eq_ofNat_of_zero_le (show 0 ≤ z by omega)
          have hwd2 : wd ≤ 60 := by omega
          have HT := hide (totalW_snoc ws k _ hf)
          have HTL := hide (totalW_take_le ws (k + 1))
          have HV := hide (vcells_succ bs ws k _ hf)
          simp only [Int.toNat_natCast] at HT HV
          obtain ⟨T, hTT⟩ : ∃ T, T = totalW (ws.take k) := ⟨_, rfl⟩
          rw [← hTT] at HT HV HBLK
          have hT2 : T + wd ≤ 8 * n' := by have h1 := unhide HT; have h2 := unhide HTL; omega
          have HTT := hide hTT
          clear hf hwd hb hTT
          obtain ⟨wo, rfl⟩ : ∃ wo : World, wo = wr := ⟨_, rfl⟩
          go_wp2_with fail
          go_loopw [12, 35] (fun q i wr => ∃ (t : Nat), t ≤ wd ∧ i = .int .i64 t ∧ q = .int .i64 (fv (bitB bs) T t) ∧ wr.ownsRow w.heap.size 3 1 u9 k (vcells bs ws k) ∧ Blk wr w.heap.size 155 #[.slice A' n' c', .int .i64 ((T + t : Nat) : Int)] ∧ Below w.heap.size w wr) (fun _ i _ => wd - (intOf i).toNat)
          case atStart => exact ⟨0, Nat.zero_le _, rfl, rfl, unhide HOWN, unhide HBLK, unhide HB⟩
          case round =>
            obtain ⟨t, ht, rfl, rfl, ho2, hbk2, hb2⟩ := hrel
            have hfl := fv_lt (bitB bs) (bitB_le bs) T t
            have hfl2 : fv (bitB bs) T t ≤ 1152921504606846976 := by have := two_pow_60 (show t ≤ 60 by omega); omega
            by_cases htl : t < wd
            · have HTAKE := hide (stripTake_at wr _ w.heap.size A' n' c' (T + t) bs hbk2 ((unhide HR').below hb2) (unhide HL') (by omega) hc' (by omega) (unhide HZ))
              have hor := or_bit (fv (bitB bs) T t) (bitB bs (T + t)) hfl2 (bitB_le bs _)
              have HSTEP := hide (show fv (bitB bs) T (t + 1) = 2 * fv (bitB bs) T t + bitB bs (T + t) from rfl)
              have HO2 := hide ho2
              have HBK2 := hide hbk2
              have HB2 := hide hb2
              have hbit := bitB_le bs (T + t)
              clear ho2 hbk2 hb2 hfl
              go_wp2_with fail
              refine (unhide HTAKE).mono ?_
              rintro e w1 ⟨rfl, hbk3, hg3⟩
              have HBK3 := hide hbk3
              have HO3 := hide ((unhide HO2).kept hg3 (by
                rcases hv : u9.ownBlock with _ | x
                · exact .inl rfl
                · right; rw [← hv]; exact own_blk_ne (unhide HO2) (unhide HBK2) (by decide)))
              have HB3 := hide ((unhide HB2).grown hg3 (unhide HB2).size (fun x hx => by injection hx with hx; omega))
              clear hbk3 hg3
              go_wp2_with fail
              go_roundw
              case rel => exact ⟨t + 1, by omega, by go_num, by rw [unhide HSTEP]; go_num, unhide HO3, unhide HBK3, unhide HB3⟩
              case measure => simp [intOf]; omega
            · obtain rfl : t = wd := by omega
              have HO2 := hide ho2
              have HBK2 := hide hbk2
              have HB2 := hide hb2
              have hszy := hb2.size
              clear ho2 hbk2 hb2 hfl
              go_wp2_with (first
                | (at_builtin; (refine wpList_append_new _ rfl (.tmp 43) (.tmp 45) _ rfl w.heap.size 3 i0 _ 1 8 Tryd.underlying22 hi hz0 hz1 hz2 rfl (by omega) (by omega) _ _ _ (unhide HO2) rfl _ 1 _ rfl rfl rfl (by simp [Value.oneCell']) (by omega) (by omega) ?_); intro g cap w1 hg hown1 hbel1 hgr1 _))
              have HO3 := hide (show w1.ownsRow w.heap.size 3 1 (.slice (some ⟨g, 0, none⟩) (k + 1) cap) (k + 1) (vcells bs ws (k + 1)) by rw [unhide HV]; exact hown1)
              have HBK3 := hide (show Blk w1 w.heap.size 155 #[.slice A' n' c', .int .i64 (totalW (ws.take (k + 1)))] from by
                rw [unhide HT]
                exact (unhide HBK2).grown hgr1 (fun he => own_blk_ne (unhide HO2) (unhide HBK2) (by decide) he.symm))
              have HB3 := hide (hbel1 _ _ (Nat.le_refl _) (unhide HB2))
              clear hown1 hgr1
              go_wp2_with fail
              go_roundw
              case rel => exact ⟨k + 1, by omega, by go_num, unhide HO3, unhide HBK3, unhide HB3⟩
              case measure => simp [intOf]; omega
        · obtain rfl : k = n := by omega
          have hall : ws.take k = ws := List.take_of_length_le (by rw [unhide HL]; exact Nat.le_refl _)
          have HBK2 := hide (show Blk wr w.heap.size 155 #[.slice A' n' c', .int .i64 (totalW ws)] by have h := unhide HBLK; rw [hall] at h; exact h)
          have HO2 := hide (show wr.ownsRow w.heap.size 3 1 u9 (valsB bs ws 0).length ((valsB bs ws 0).map (.int .i64)) by
            have h := unhide HOWN
            rw [valsB_len, unhide HL, ← vcells_all, unhide HL]; exact h)
          obtain ⟨T, hTT⟩ : ∃ T, T = totalW ws := ⟨_, rfl⟩
          rw [← hTT] at HBK2 hT HP
          clear hall hb HOWN HBLK hTT
          obtain ⟨wo, rfl⟩ : ∃ wo : World, wo = wr := ⟨_, rfl⟩
          go_wp2_with fail
          go_loopg [] (8 * n' - T) (fun q wr => ∃ (t : Nat), T + t + q = 8 * n' ∧ Hid (∀ k, k < T + t → T ≤ k → bitB bs k = 0) ∧ wr.ownsRow w.heap.size 3 1 u9 (valsB bs ws 0).length ((valsB bs ws 0).map (.int .i64)) ∧ Blk wr w.heap.size 155 #[.slice A' n' c', .int .i64 ((T + t : Nat) : Int)] ∧ Below w.heap.size w wr)
          case atStart => exact ⟨0, by omega, fun k h1 h2 => by omega, unhide HO2, unhide HBK2, unhide HB⟩
          case round =>
            obtain ⟨t, ht, HZE, ho2, hbk2, hb2⟩ := hrel
            have b1 : wr.cell? ⟨w.heap.size, 1, none⟩ = some (.int .i64 ((T + t : Nat) : Int)) := by rw [hbk2.cell]; rfl
            by_cases htl : T + t < 8 * n'
            · have HTAKE := hide (stripTake_at wr _ w.heap.size A' n' c' (T + t) bs hbk2 ((unhide HR').below hb2) (unhide HL') (by omega) hc' (by omega) (unhide HZ))
              have HO3 := hide ho2
              have HBK3 := hide hbk2
              have HB3 := hide hb2
              have hbit := bitB_le bs (T + t)
              clear ho2 hbk2 hb2
              rcases (show bitB bs (T + t) = 0 ∨ bitB bs (T + t) = 1 by omega) with hb0 | hb0
              · have HZE2 := hide (show ∀ k, k < T + (t + 1) → T ≤ k → bitB bs k = 0 by
                  intro k h1 h2
                  by_cases e : k = T + t
                  · rw [e]; exact hb0
                  · exact unhide HZE k (by omega) h2)
                have HTK := hide (by have h := unhide HTAKE; rw [hb0] at h; exact h)
                clear HTAKE hb0 hbit
                go_wp2_with fail
                refine (unhide HTK).mono ?_
                rintro e w1 ⟨rfl, hbk4, hg4⟩
                have HBK4 := hide hbk4
                have HO4 := hide ((unhide HO3).kept hg4 (by
                  rcases hv : u9.ownBlock with _ | x
                  · exact .inl rfl
                  · right; rw [← hv]; exact own_blk_ne (unhide HO3) (unhide HBK3) (by decide)))
                have HB4 := hide ((unhide HB3).grown hg4 (unhide HB3).size (fun x hx => by injection hx with hx; omega))
                clear hbk4 hg4
                go_wp2_with fail
                go_roundg (gk - 1)
                case measure => omega
                case rel => exact ⟨t + 1, by omega, unhide HZE2, unhide HO4, unhide HBK4, unhide HB4⟩
              · have HP2 := hide (show unpackP ws bs = ([], 4) by
                  rw [unhide HP, if_neg]
                  intro h
                  unfold tailOk at h
                  have := of_decide_eq_true h (T + t) htl (by omega)
                  omega)
                have HTK := hide (by have h := unhide HTAKE; rw [hb0] at h; exact h)
                clear HTAKE hb0 hbit
                go_wp2_with fail
                refine (unhide HTK).mono ?_
                rintro e w1 ⟨rfl, hbk4, hg4⟩
                have HB4 := hide ((unhide HB3).grown hg4 (unhide HB3).size (fun x hx => by injection hx with hx; omega))
                clear hbk4 hg4
                go_wp2_with fail
                go_ret2
                exact ⟨_, by rw [unhide HP2]; rfl, by rw [unhide HP2]; exact ⟨World.ownsRow_nil _ _ _ _, unhide HB4⟩⟩
            · have HP2 := hide (show unpackP ws bs = (valsB bs ws 0, 0) by
                rw [unhide HP, if_pos]
                unfold tailOk
                exact decide_eq_true fun k h1 h2 => unhide HZE k (by omega) h2)
              have HO3 := hide ho2
              have HB3 := hide hb2
              clear ho2 hb2 hbk2
              go_wp2_with fail
              go_ret2
              exact ⟨_, by rw [unhide HP2]; rfl, by rw [unhide HP2]; exact ⟨unhide HO3, unhide HB3⟩⟩
    · have HP := hide (show unpackP ws bs = ([], 4) by rw [hu, if_pos (by rw [hl']; intro h; exact hne (by exact_mod_cast h))])
      have hne' : ((n' : Int) != (N : Int)) = true := by rw [bne_iff_ne]; intro h; exact hne (by exact_mod_cast h)
      clear HC hs hl hl' hu hN hw60 h40 hne
      go_enter Tryd.func59, Tryd.ntmps59
      go_wp2_with fail
      refine (unhide HC2).mono ?_
      rintro e w' ⟨rfl, rfl⟩
      go_wp2_with fail
      go_ret2
      exact ⟨_, by rw [unhide HP]; rfl, by rw [unhide HP]; exact ⟨World.ownsRow_nil _ _ _ _, Below.refl _ _⟩⟩
end
section
open Go.RowKit
def Shf.cells (s : Shf) (v : Value) : List Value := [.int .i64 s.free, .int .i64 s.used, .int .i64 s.made, v]
/-- the shelf 's' lies in block 'g' from cell 'o' on; 'v' is its row of open holds -/
structure ShAt (w : World) (base g o : Nat) (cs : Array Value) (s : Shf) (v : Value) : Prop where
  blk : Blk w g 93 cs
  has : Has cs o (s.cells v)
  own : w.ownsRow base 149 3 v s.opn.length (s.opn.flatMap Hd.cells)
section
variable {w w' : World} {base g o : Nat} {cs : Array Value} {s : Shf} {v : Value}
theorem ShAt.c0 (h : ShAt w base g o cs s v) : w.cell? ⟨g, o, none⟩ = some (.int .i64 s.free) := h.blk.at_ h.has 0 rfl
theorem ShAt.c1 (h : ShAt w base g o cs s v) : w.cell? ⟨g, o + 1, none⟩ = some (.int .i64 s.used) := h.blk.at_ h.has 1 rfl
theorem ShAt.c2 (h : ShAt w base g o cs s v) : w.cell? ⟨g, o + 2, none⟩ = some (.int .i64 s.made) := h.blk.at_ h.has 2 rfl
theorem ShAt.c3 (h : ShAt w base g o cs s v) : w.cell? ⟨g, o + 3, none⟩ = some v := h.blk.at_ h.has 3 rfl
theorem ShAt.fr (h : ShAt w base g o cs s v) (i : Nat) : w.frozen? ⟨g, i, none⟩ = false := h.blk.frozen i
theorem ShAt.ne (h : ShAt w base g o cs s v) : v.ownBlock ≠ some g := own_blk_ne h.own h.blk (by decide)
theorem ShAt.only {D : Nat → Prop} (h : ShAt w base g o cs s v) (ho : Only D w w') (h1 : ¬ D g) (h2 : ∀ k, v.ownBlock = some k → ¬ D k) : ShAt w' base g o cs s v :=
  ⟨h.blk.only ho h1, h.has, own_only h.own ho h2⟩
theorem ShAt.calm (h : ShAt w base g o cs s v) (hb : Below w.heap.size w w') : ShAt w' base g o cs s v :=
  h.only (D := fun k => w.heap.size ≤ k) (Only.of_below hb fun _ _ h => h) (by have := h.blk.lt; omega) (fun k hk => by have := (h.own.lt k hk).2; omega)
/-- one field is stored -/
theorem ShAt.free_ (h : ShAt w base g o cs s v) (x : Int) : ShAt (w.setCell ⟨g, o, none⟩ (.int .i64 x)) base g o (putAt cs o (({ s with free := x } : Shf).cells v)) { s with free := x } v :=
  ⟨h.blk.put_ (j := 0) h.has (by simp [Shf.cells]) _, Has.putAt _ _ _ (h.has.le (by simp [Shf.cells])), World.ownsRow.kept h.own (only_setCell (World.grownBy.refl w (some g)) (.inl rfl) _) (.inr h.ne)⟩
theorem ShAt.used_ (h : ShAt w base g o cs s v) (x : Int) : ShAt (w.setCell ⟨g, o + 1, none⟩ (.int .i64 x)) base g o (putAt cs o (({ s with used := x } : Shf).cells v)) { s with used := x } v :=
  ⟨h.blk.put_ (j := 1) h.has (by simp [Shf.cells]) _, Has.putAt _ _ _ (h.has.le (by simp [Shf.cells])), World.ownsRow.kept h.own (only_setCell (World.grownBy.refl w (some g)) (.inl rfl) _) (.inr h.ne)⟩
theorem ShAt.made_ (h : ShAt w base g o cs s v) (x : Int) : ShAt (w.setCell ⟨g, o + 2, none⟩ (.int .i64 x)) base g o (putAt cs o (({ s with made := x } : Shf).cells v)) { s with made := x } v :=
  ⟨h.blk.put_ (j := 2) h.has (by simp [Shf.cells]) _, Has.putAt _ _ _ (h.has.le (by simp [Shf.cells])), World.ownsRow.kept h.own (only_setCell (World.grownBy.refl w (some g)) (.inl rfl) _) (.inr h.ne)⟩
/-- the row of holds is stored anew -/
theorem ShAt.open_ {w1 : World} {l : List Hd} {u : Value} (h : ShAt w base g o cs s v) (hb : Blk w1 g 93 cs) (hown : w1.ownsRow base 149 3 u l.length (l.flatMap Hd.cells)) :
    ShAt (w1.setCell ⟨g, o + 3, none⟩ u) base g o (putAt cs o (({ s with opn := l } : Shf).cells u)) { s with opn := l } u :=
  ⟨hb.put_ (j := 3) h.has (by simp [Shf.cells]) _, Has.putAt _ _ _ (h.has.le (by simp [Shf.cells])), World.ownsRow.kept hown (only_setCell (World.grownBy.refl w1 (some g)) (.inl rfl) _) (.inr (own_blk_ne hown hb (by decide)))⟩
end
theorem heldL_take (l : List Hd) (k : Nat) (h : Hd) (hk : l[k]? = some h) : heldL (l.take (k + 1)) = heldL (l.take k) + h.count := by
  rw [take_snoc l k h hk, heldL_append]; simp [heldL]
theorem heldL_bound {l : List Hd} (h : ∀ x ∈ l, 0 ≤ x.count ∧ x.count ≤ 1048576) : 0 ≤ heldL l ∧ heldL l ≤ 1048576 * l.length := by
  induction l with
  | nil => simp [heldL]
  | cons x l ih => have := h x (by simp); have := ih (fun y hy => h y (by simp [hy])); simp [heldL]; omega
theorem shelfHeld_any (base g o : Nat) (cs : Array Value) (s : Shf) (v : Value) (w : World) (h : ShAt w base g o cs s v) (hl : s.opn.length ≤ 4) (hc : ∀ x ∈ s.opn, 0 ≤ x.count ∧ x.count ≤ 1048576) :
    Calls Tryd.prog 66 #[.pointer (some ⟨g, o, none⟩)] w fun e w' => e = .returned (.int .i64 (heldL s.opn)) ∧ Below w.heap.size w w' := by
  obtain ⟨A, c, rfl, hnc⟩ := own_slice h.own
  have c3 := h.c3
  have HR := hide (Reads.of_own h.own)
  have HC := hide hc
  obtain ⟨n, hn⟩ : ∃ n, n = s.opn.length := ⟨_, rfl⟩
  rw [← hn] at c3 hl hnc HR
  have HN := hide hn.symm
  clear h hn hc
  go_enter Tryd.func66, Tryd.ntmps66
  go_wp2_with fail
  go_loopw [2, 10] (fun x i wr => ∃ k : Nat, k ≤ n ∧ i = .int .i64 k ∧ x = .int .i64 (heldL (s.opn.take k)) ∧ Below w.heap.size w wr) (fun _ i _ => n - (intOf i).toNat)
  case atStart => exact ⟨0, Nat.zero_le _, rfl, rfl, Below.refl _ _⟩
  case round =>
    obtain ⟨k, hk, rfl, rfl, hb⟩ := hrel
    by_cases hlt : k < n
    · obtain ⟨b, p, x, rfl, _, hx, hcx⟩ := at_row Hd.cells_len (by omega) ((unhide HR).below hb) hlt (unhide HN)
      have e0 := hcx 0 _ rfl
      have e1 := hcx 1 _ rfl
      have e2 := hcx 2 _ rfl
      simp only [Nat.add_zero] at e0
      have hkn : (k : Int) < (n : Int) := by omega
      have HS := hide (heldL_take s.opn k x hx)
      have hbd := heldL_bound (l := s.opn.take k) fun y hy => unhide HC y (List.mem_of_mem_take hy)
      have hlk : ((s.opn.take k).length : Int) ≤ 4 := by have : (s.opn.take k).length ≤ k := List.length_take_le _ _; omega
      have hxb := unhide HC x (List.mem_of_getElem? hx)
      obtain ⟨hb1, hb2⟩ := hbd
      obtain ⟨hx1, hx2⟩ := hxb
      have hb3 : heldL (s.opn.take k) ≤ 4194304 := by omega
      generalize heldL (s.opn.take k) = q at *
      clear hx hcx hb2 hlk
      go_wp2_with fail
      go_roundw
      case rel => exact ⟨k + 1, by omega, by go_num, by rw [unhide HS], hb.alloc hb.size _⟩
      case measure => simp [intOf]; omega
    · obtain rfl : k = n := by omega
      go_wp2_with fail
      go_ret
      exact ⟨ret_int (by rw [List.take_of_length_le (by rw [unhide HN]; exact Nat.le_refl _)]), hb⟩
theorem shelfStock_any (base g o : Nat) (cs : Array Value) (s : Shf) (v : Value) (w : World) (h : ShAt w base g o cs s v) (hl : s.opn.length ≤ 4) (hc : ∀ x ∈ s.opn, 0 ≤ x.count ∧ x.count ≤ 1048576) :
    Calls Tryd.prog 48 #[.pointer (some ⟨g, o, none⟩)] w fun e w' => e = .returned (s.stock 0 0).val ∧ Below w.heap.size w w' := by
  obtain ⟨wx, hwx⟩ : ∃ wx, wx = w.alloc (.cells #[.int .i64 0, .int .i64 0, .int .i64 0, .int .i64 0, .int .i64 0] 38) := ⟨_, rfl⟩
  have hbx : Below w.heap.size w wx := by rw [hwx]; exact (Below.refl _ _).alloc (Nat.le_refl _) _
  have hsx : wx.heap.size = w.heap.size + 1 := by rw [hwx]; simp
  have hx := h.calm hbx
  have c0 := fun n : Ext wx => n.cell hx.c0
  have c1 := fun n : Ext wx => n.cell hx.c1
  have HH := hide (fun W (hW : Below wx.heap.size wx W) => shelfHeld_any base g o cs s v W (hx.calm hW) hl hc)
  have hk : Blk wx w.heap.size 38 #[.int .i64 0, .int .i64 0, .int .i64 0, .int .i64 0, .int .i64 0] := by rw [hwx]; exact Blk.new w 38 _
  have HK := hide hk
  have HWX := hide hwx
  have HBX := hide hbx
  have HSX := hide hsx
  clear hx h hl hc hwx hbx hsx hk
  go_enter Tryd.func48, Tryd.ntmps48
  go_wp2_with fail
  rw [← unhide HWX]
  refine wp_region_calm_tail 11 (by kernel_rfl) (by kernel_rfl) ?_
  simp only [List.take_succ_cons, List.take_zero, List.drop_succ_cons, List.drop_zero]
  repeat (go_big_quiet_step ((go_at_call 66; exact calm_call (unhide HH _ (Ext.h _)))))
  refine wpQuiet_nil ?_
  rintro _ ⟨nq, rfl⟩
  have HK2 := hide ((unhide HK).below nq.h (Blk.lt (unhide HK)))
  have d0 := (unhide HK2).cell 0
  have d1 := (unhide HK2).cell 1
  have d2 := (unhide HK2).cell 2
  have d3 := (unhide HK2).cell 3
  have d4 := (unhide HK2).cell 4
  have f0 := (unhide HK2).frozen 0
  have f1 := (unhide HK2).frozen 1
  have f2 := (unhide HK2).frozen 2
  have f3 := (unhide HK2).frozen 3
  have f4 := (unhide HK2).frozen 4
  go_wp2_with fail
  refine bodyPost_ret (v := (s.stock 0 0).val) (by simp [results, Tryd.results48, go_sem, d0, d1, d2, d3, d4]; rfl) rfl ⟨rfl, ?_⟩
  exact (((((((unhide HBX).trans (nq.h.mono (unhide HBX).size)).setCell (Nat.le_refl _) _).setCell (Nat.le_refl _) _).setCell (Nat.le_refl _) _).setCell (Nat.le_refl _) _).setCell (Nat.le_refl _) _)
end
end Go.Proofs.YtbolcebmbpepdaaDoor
