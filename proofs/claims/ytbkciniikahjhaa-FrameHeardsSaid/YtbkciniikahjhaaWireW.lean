/- The contract of the reference's WireUnpack over whatever widths and bytes, and the law on wire.Unpack. Conditions: none beyond what each theorem states. -/
import Derived.Test.YtbkciniikahjhaaWireV
import Derived.Test.YtbkciniikahjhaaWireD
namespace Go.Proofs.Ytbkciniikahjhaa
open Go.RowKit
set_option linter.unusedVariables false

theorem info_fld : (Try.prog.info? 53).map (fun i => (i.zero, i.size, i.bytes)) = some (some (.agg #[.int .i64 0, .int .i64 0]), 2, 16) := by kernel_rfl
theorem fsB_get (bs ws : List Int) (a k : Nat) (z : Int) (h : ws[k]? = some z) : (fsB bs ws a)[k]? = some (z, (fv (bitB bs) (a + totalW (ws.take k)) z.toNat : Int)) := by
  induction ws generalizing a k with
  | nil => simp at h
  | cons y ws ih =>
    cases k with
    | zero => simp at h; subst h; simp [fsB, totalW]
    | succ k =>
      simp at h
      rw [fsB, List.getElem?_cons_succ, ih _ _ h]
      simp [totalW, Nat.add_assoc]
theorem fsB_len (bs ws : List Int) (a : Nat) : (fsB bs ws a).length = ws.length := by
  induction ws generalizing a with
  | nil => rfl
  | cons y ws ih => simp [fsB, ih]
def fcells (bs ws : List Int) (k : Nat) : List Value := ((fsB bs ws 0).take k).flatMap fldCells
theorem fcells_succ (bs ws : List Int) (k : Nat) (z : Int) (h : ws[k]? = some z) : fcells bs ws (k + 1) = fcells bs ws k ++ [.int .i64 z, .int .i64 (fv (bitB bs) (totalW (ws.take k)) z.toNat : Int)] := by
  have := fsB_get bs ws 0 k z h
  rw [Nat.zero_add] at this
  simp [fcells, take_snoc _ k _ this, fldCells]
theorem fcells_all (bs ws : List Int) : fcells bs ws ws.length = (fsB bs ws 0).flatMap fldCells := by
  unfold fcells; rw [List.take_of_length_le (by rw [fsB_len]; exact Nat.le_refl _)]

theorem ownsRow_below {w w' : World} {base size n : Nat} {e : TypeId} {v : Value} {xs : List Value} (h : w.ownsRow base e size v n xs) (hb : Below w.heap.size w w') : w'.ownsRow base e size v n xs :=
  h.kept (row := none) ⟨hb.os, hb.tape, hb.output, hb.size, fun k hk _ => hb.block k hk⟩ (by cases v.ownBlock <;> simp)

set_option maxHeartbeats 800000 in
set_option maxRecDepth 100000 in
theorem wireUnpack_ref (A : Option Addr) (n c : Nat) (ws : List Int) (A' : Option Addr) (n' c' : Nat) (bs : List Int) (w : World) (hl : ws.length = n) (hm : n ≤ 9223372036854775807) (hr : Reads w w.heap.size 1 A n (ws.map (.int .i64)))
    (hl' : bs.length = n') (hm' : n' ≤ 9223372036854775807) (hc' : n' ≤ c') (hr' : Reads w w.heap.size 1 A' n' (bs.map (.int .u8))) (hz : ∀ z ∈ bs, 0 ≤ z ∧ z ≤ 255) :
    Calls Try.prog 35 #[.slice A n c, .slice A' n' c'] w (UnpPost ws bs w) := by
  obtain ⟨i0, hi, hz0, hz1, hz2⟩ := info_parts info_int
  obtain ⟨iF, hiF, hzF0, hzF1, hzF2⟩ := info_parts info_fld
  have HR := hide hr
  have HR' := hide hr'
  have HL := hide hl
  have HL' := hide hl'
  have HZ := hide hz
  have HC := hide (wireSize_ref A n c ws _ w hl hm hr)
  clear hr hr' hz
  rcases sizeP_cases ws with hs | hs | ⟨N, hs, h40, hw60, hN⟩
  · have HC2 := hide (by have h := unhide HC; rw [hs] at h; exact h)
    have HP := hide (show unpackP ws bs = ([], 1) by unfold unpackP; rw [hs]; rfl)
    clear HC hs hl hl'
    go_enter Try.func35, Try.ntmps35
    go_wp2_with fail
    refine (unhide HC2).mono ?_
    rintro e w' ⟨rfl, rfl⟩
    go_wp2_with fail
    go_ret2
    exact ⟨_, by rw [unhide HP]; rfl, by rw [unhide HP]; exact ⟨World.ownsRow_nil _ _ _ _, Below.refl _ _⟩⟩
  · have HC2 := hide (by have h := unhide HC; rw [hs] at h; exact h)
    have HP := hide (show unpackP ws bs = ([], 2) by unfold unpackP; rw [hs]; rfl)
    clear HC hs hl hl'
    go_enter Try.func35, Try.ntmps35
    go_wp2_with fail
    refine (unhide HC2).mono ?_
    rintro e w' ⟨rfl, rfl⟩
    go_wp2_with fail
    go_ret2
    exact ⟨_, by rw [unhide HP]; rfl, by rw [unhide HP]; exact ⟨World.ownsRow_nil _ _ _ _, Below.refl _ _⟩⟩
  · have HC2 := hide (by have h := unhide HC; rw [hs] at h; exact h)
    have hu : unpackP ws bs = if ((bs.length : Nat) : Int) ≠ N then ([], 4) else if tailOk bs (totalW ws) (8 * bs.length) then (valsB bs ws 0, 0) else ([], 4) := by unfold unpackP; rw [hs]; simp
    by_cases hne : n' = N
    · have HP := hide (show unpackP ws bs = if tailOk bs (totalW ws) (8 * N) then (valsB bs ws 0, 0) else ([], 4) by rw [hu, if_neg (by rw [hl', hne]; simp), hl', hne])
      have hT : totalW ws ≤ 8 * N := by unfold totalW; omega
      have hN4 : N ≤ 300 := by have := sum_le ws hw60; omega
      have hn40 : n ≤ 40 := by omega
      have HW60 := hide hw60
      have HPK := hide (show packP (fsB bs ws 0) = (bytesOf (allBits (fsB bs ws 0)) N, 0) by unfold packP; rw [fsB_fst, hs, fsB_fits]; simp)
      have HRE := hide (show (bytesOf (allBits (fsB bs ws 0)) N = bs ↔ tailOk bs (totalW ws) (8 * N) = true) by
        have := repack_iff bs ws (unhide HZ) (by rw [hl', hne]; exact hT)
        rw [hl', hne] at this; exact this)
      subst hne
      clear HC hs hl hl' hu hN hw60 h40
      go_enter Try.func35, Try.ntmps35
      go_wp2_with fail
      refine (unhide HC2).mono ?_
      rintro e w' ⟨rfl, rfl⟩
      go_wp2_with fail
      go_loopw [8, 9, 10, 31] (fun v l at0 i wr => ∃ (k : Nat), k ≤ n ∧ i = .int .i64 k ∧ at0 = .int .i64 (totalW (ws.take k)) ∧ wr.ownsRow w.heap.size 3 1 v k (vcells bs ws k) ∧ wr.ownsRow w.heap.size 53 2 l k (fcells bs ws k) ∧ Below w.heap.size w wr) (fun _ _ _ i _ => n - (intOf i).toNat)
      case atStart => exact ⟨0, Nat.zero_le _, rfl, rfl, World.ownsRow_nil _ _ _ _, World.ownsRow_nil _ _ _ _, Below.refl _ _⟩
      case round =>
        obtain ⟨k, hk, rfl, rfl, hown, hown2, hb⟩ := hrel
        have HOWN := hide hown
        have HOWF := hide hown2
        have HB := hide hb
        have hszr := hb.size
        clear hown hown2
        by_cases hlt : k < n
        · obtain ⟨b, o, z, rfl, hab, hf, hc0⟩ := at_num ((unhide HR).below hb) hlt
          have hwd := unhide HW60 z (List.mem_of_getElem? hf)
          obtain ⟨wd, rfl⟩ := Int.eq_ofNat_of_zero_le (show 0 ≤ z by omega)
          have hwd2 : wd ≤ 60 := by omega
          have HT := hide (totalW_snoc ws k _ hf)
          have HTL := hide (totalW_take_le ws (k + 1))
          have HV := hide (vcells_succ bs ws k _ hf)
          have HF := hide (fcells_succ bs ws k _ hf)
          simp only [Int.toNat_natCast] at HT HV HF
          obtain ⟨T, hTT⟩ : ∃ T, T = totalW (ws.take k) := ⟨_, rfl⟩
          rw [← hTT] at HT HV HF
          have hT2 : T + wd ≤ 8 * n' := by have h1 := unhide HT; have h2 := unhide HTL; omega
          rw [← hTT]
          clear hf hwd hb hTT
          obtain ⟨wo, rfl⟩ : ∃ wo : World, wo = wr := ⟨_, rfl⟩
          go_wp2_with fail
          go_loopw [10, 13, 14] (fun at0 q i wr => ∃ (t nq : Nat), t ≤ wd ∧ i = .int .i64 t ∧ at0 = .int .i64 ((T + t : Nat) : Int) ∧ q = .int .i64 (fv (bitB bs) T t) ∧ wr = wo.drewN nq) (fun _ _ i _ => wd - (intOf i).toNat)
          case atStart => exact ⟨0, 0, Nat.zero_le _, rfl, rfl, rfl, rfl⟩
          case round =>
            obtain ⟨t, nq, ht, rfl, rfl, rfl, rfl⟩ := hrel
            have hfl := fv_lt (bitB bs) (bitB_le bs) T t
            have hfl2 : fv (bitB bs) T t ≤ 1152921504606846976 := by have := two_pow_60 (show t ≤ 60 by omega); omega
            by_cases htl : t < wd
            · obtain ⟨b', o', y, rfl, hb', hy, hcy0⟩ := at_num (unhide HR') (show (T + t) / 8 < n' by omega)
              obtain ⟨y, rfl⟩ := Int.eq_ofNat_of_zero_le (unhide HZ y (List.mem_of_getElem? hy)).1
              have hy255 := (unhide HZ _ (List.mem_of_getElem? hy)).2
              have hcy : wo.cell? ⟨b', o' + (T + t) / 8, none⟩ = some (.int .u8 y) := ((unhide HB).cell (by exact hb')).trans hcy0
              have HSTEP := hide (show fv (bitB bs) T (t + 1) = 2 * fv (bitB bs) T t + y / 2 ^ (7 - (T + t) % 8) % 2 by
                have : bs.getD ((T + t) / 8) 0 = (y : Int) := by rw [List.getD_eq_getElem?_getD, hy]; rfl
                show 2 * fv (bitB bs) T t + bitB bs (T + t) = _
                unfold bitB
                rw [this]; rfl)
              have hp7 : (1 : Int) ≤ (2 : Int) ^ (7 - (T + t) % 8) ∧ (2 : Int) ^ (7 - (T + t) % 8) ≤ 128 := by
                have h1 := pow_le_128 (7 - (T + t) % 8) (by omega)
                have h0 : 1 ≤ 2 ^ (7 - (T + t) % 8) := Nat.pow_pos (by omega)
                have h2 : (1 : Int) ≤ ((2 ^ (7 - (T + t) % 8) : Nat) : Int) ∧ ((2 ^ (7 - (T + t) % 8) : Nat) : Int) ≤ 128 := ⟨by omega, by omega⟩
                simpa using h2
              have hy2 : (0 : Int) ≤ (y : Int) / 2 ^ (7 - (T + t) % 8) ∧ (y : Int) / 2 ^ (7 - (T + t) % 8) ≤ 255 := by
                have e : ((y:Int) / 2 ^ (7 - (T + t) % 8)) = ((y / 2 ^ (7 - (T + t) % 8) : Nat) : Int) := by simp
                have hd : y / 2 ^ (7 - (T + t) % 8) ≤ y := Nat.div_le_self _ _
                rw [e]
                exact ⟨Int.natCast_nonneg _, Int.ofNat_le.2 (Nat.le_trans hd (show y ≤ 255 by omega))⟩
              clear hy hcy0 hb' hfl
              go_wp2_with fail
              go_region
              go_wp2_with fail
              go_roundw
              case rel => exact ⟨t + 1, nq + 1, by omega, by go_num, by go_num, by rw [unhide HSTEP]; simp, rfl⟩
              case measure => simp [intOf]; omega
            · obtain rfl : t = wd := by omega
              have hszy := (unhide HB).size
              clear hfl
              go_wp2_with (first
                | (at_builtin; (refine wpList_append_new _ rfl (.tmp 57) (.tmp 59) _ rfl w.heap.size 3 i0 _ 1 8 Try.underlying22 hi hz0 hz1 hz2 rfl (by omega) (by omega) _ _ _ (show (wo.drewN nq).ownsRow w.heap.size 3 1 u8 k (vcells bs ws k) from unhide HOWN) rfl _ 1 _ rfl rfl rfl (by simp [Value.oneCell']) (by omega) (by omega) ?_); intro g cap w1 hg hown1 hbel1 hgr1 hat1; (have HF1 := hide ((show (wo.drewN nq).ownsRow w.heap.size 53 2 u9 k (fcells bs ws k) from unhide HOWF).kept hgr1 (own_own_ne (w := wo.drewN nq) (unhide HOWF) (unhide HOWN) (by decide)))); have HB1 := hide (hbel1 _ _ (Nat.le_refl _) (below_drewN (unhide HB) nq)); have hsz1 := (unhide HB1).size)
                | (at_builtin; (refine wpList_append_new _ rfl (.tmp 61) (.tmp 65) _ rfl w.heap.size 53 iF _ 2 16 Try.underlying51 hiF hzF0 hzF1 hzF2 rfl (by omega) (by omega) _ _ _ (unhide HF1) rfl _ 1 _ rfl rfl rfl (by simp [Value.oneCell']) (by omega) (by omega) ?_); intro g2 cap2 w2 hg2 hown2 hbel2 hgr2 _))
              have HV2 := hide (show w2.ownsRow w.heap.size 3 1 (.slice (some ⟨g, 0, none⟩) (k + 1) cap) (k + 1) (vcells bs ws (k + 1)) by
                rw [unhide HV]
                exact hown1.kept hgr2 (own_own_ne hown1 (unhide HF1) (by decide)))
              have HF2 := hide (show w2.ownsRow w.heap.size 53 2 (.slice (some ⟨g2, 0, none⟩) (k + 1) cap2) (k + 1) (fcells bs ws (k + 1)) by
                rw [unhide HF]
                exact hown2)
              have HB2 := hide (hbel2 _ _ (Nat.le_refl _) (unhide HB1))
              clear hown1 hown2 hgr1 hgr2 hat1
              go_roundw
              case rel => exact ⟨k + 1, by omega, by go_num, by rw [unhide HT]; go_num, unhide HV2, unhide HF2, unhide HB2⟩
              case measure => simp [intOf]; omega
        · obtain rfl : k = n := by omega
          have HO2 := hide (show wr.ownsRow w.heap.size 3 1 u8 (valsB bs ws 0).length ((valsB bs ws 0).map (.int .i64)) by
            have h := unhide HOWN
            rw [valsB_len, unhide HL, ← vcells_all, unhide HL]; exact h)
          obtain ⟨AF, cF, hAF, _⟩ := own_slice (unhide HOWF)
          subst hAF
          have HPACK := hide (wirePack_ref AF k cF (fsB bs ws 0) wr (by rw [fsB_len]; exact unhide HL) (by omega) (by
            have h := Reads.of_own (unhide HOWF)
            rw [← fcells_all, unhide HL]; exact h))
          clear hb HOWN HOWF
          go_wp2_with fail
          refine (unhide HPACK).mono ?_
          rintro e w1 ⟨v1, rfl, ho1, hb1⟩
          obtain ⟨A1, c1, rfl, hc1⟩ := own_slice ho1
          have hpk := unhide HPK
          rw [hpk] at ho1 ⊢
          have hN1 : (bytesOf (allBits (fsB bs ws 0)) n').length = n' := by simp [bytesOf]
          rw [hN1] at ho1
          have hbytes : ∀ z ∈ bytesOf (allBits (fsB bs ws 0)) n', 0 ≤ z ∧ z ≤ 255 := by
            intro z hz
            simp only [bytesOf, List.mem_map] at hz
            obtain ⟨i, _, rfl⟩ := hz
            have := byteOf_le _ (allBits_le (fsB bs ws 0)) i
            omega
          have HSAME := hide (refSame_any A1 A' n' n' c1 c' _ bs (w1.heap.size) w1 hN1 (unhide HL') hbytes (unhide HZ) (Reads.of_own ho1) (((unhide HR').below ((unhide HB).trans (hb1.mono (unhide HB).size))).more (Nat.le_trans (unhide HB).size hb1.size)))
          have HB1 := hide ((unhide HB).trans (hb1.mono (unhide HB).size))
          have HO3 := hide (ownsRow_below (unhide HO2) hb1)
          clear ho1 hb1 hbytes hpk
          rw [hN1]
          clear hN1
          cases hsame : sameL (bytesOf (allBits (fsB bs ws 0)) n') bs
          · have HS2 := hide (by have h := unhide HSAME; rw [hsame] at h; exact h)
            have HP2 := hide (show unpackP ws bs = ([], 4) by
              rw [unhide HP, if_neg]
              intro h
              have := (unhide HRE).2 h
              rw [this, sameL_self] at hsame
              cases hsame)
            clear HSAME hsame
            go_wp2_with fail
            refine (unhide HS2).mono ?_
            rintro e w2 ⟨rfl, rfl⟩
            go_wp2_with fail
            go_ret2
            exact ⟨_, by rw [unhide HP2]; rfl, by rw [unhide HP2]; exact ⟨World.ownsRow_nil _ _ _ _, unhide HB1⟩⟩
          · have HS2 := hide (by have h := unhide HSAME; rw [hsame] at h; exact h)
            have HP2 := hide (show unpackP ws bs = (valsB bs ws 0, 0) by
              rw [unhide HP, if_pos]
              exact (unhide HRE).1 (of_decide_eq_true hsame))
            clear HSAME hsame
            go_wp2_with fail
            refine (unhide HS2).mono ?_
            rintro e w2 ⟨rfl, rfl⟩
            go_wp2_with fail
            go_ret2
            exact ⟨_, by rw [unhide HP2]; rfl, by rw [unhide HP2]; exact ⟨unhide HO3, unhide HB1⟩⟩
    · have HP := hide (show unpackP ws bs = ([], 4) by rw [hu, if_pos (by rw [hl']; intro h; exact hne (by exact_mod_cast h))])
      have hne' : ((n' : Int) != (N : Int)) = true := by rw [bne_iff_ne]; intro h; exact hne (by exact_mod_cast h)
      clear HC hs hl hl' hu hN hw60 h40 hne
      go_enter Try.func35, Try.ntmps35
      go_wp2_with fail
      refine (unhide HC2).mono ?_
      rintro e w' ⟨rfl, rfl⟩
      go_wp2_with fail
      go_ret2
      exact ⟨_, by rw [unhide HP]; rfl, by rw [unhide HP]; exact ⟨World.ownsRow_nil _ _ _ _, Below.refl _ _⟩⟩
end Go.Proofs.Ytbkciniikahjhaa
