/- Contract of the reference's StepRead. Conditions: none beyond what each theorem states. -/
import Derived.Test.YtcmkcgegdclllaaDoorReaB
namespace Go.Proofs.YtcmkcgegdclllaaDoor
open Go.RowKit
set_option linter.unusedVariables false

set_option maxRecDepth 100000 in
set_option maxHeartbeats 4000000 in
theorem refRead_any (L : List UInt8) (w : World) (hL : L.length ≤ 1048576) :
    Calls Tryd.prog 12 #[.string (bstr L)] w (ReadPost L w) := by
  obtain ⟨iS, hiS, hzS, hsS, hyS⟩ := str_info
  have hLS : (bstr L).size = L.length := bstr_size L
  have HG := hide (fun i (h : i < L.length) => bstr_get L i h)
  have HK := hide (fun i (h : i < L.length) => bstr_cut L i h)
  obtain ⟨S, hS⟩ : ∃ S, S = bstr L := ⟨_, rfl⟩
  rw [← hS] at HG HK hLS ⊢
  obtain ⟨nl, hnl⟩ : ∃ nl, nl = L.length := ⟨_, rfl⟩
  rw [← hnl] at hLS hL
  have HS := hide hS
  have HNL := hide hnl
  have HL := hide hL
  obtain ⟨wx, hwx⟩ : ∃ wx, wx = w.alloc (.cells zerC 29) := ⟨_, rfl⟩
  obtain ⟨p, hp⟩ : ∃ p, p = w.heap.size := ⟨_, rfl⟩
  have HKX := hide (show Blk wx p 29 zerC by rw [hwx, hp]; exact Blk.new _ _ _)
  have HBX := hide (show Below w.heap.size w wx by rw [hwx]; exact (Below.refl _ _).alloc (Nat.le_refl _) _)
  have HP := hide hp
  have HWX := hide hwx
  clear hS hnl hL hwx hp
  go_enter Tryd.func12, Tryd.ntmps12
  go_upto_region 4 with fail
  rw [show (#[.int .i64 0, .int .i64 0, .int .i64 0, .int .i64 0, .int .i64 0, .int .i64 0, .int .i64 0, .int .i64 0] : Array Value) = zerC from rfl, ← unhide HP, ← unhide HWX]
  go_loopw [4, 5, 6] (fun v s x W => ∃ (i : Nat) (ws : List (List UInt8)) (word : List UInt8), x = .int .i64 i ∧ s = .string (bstr word) ∧ i ≤ nl + 1 ∧ Hid (SplAt L i ws word) ∧ Hid (W.ownsRow w.heap.size 9 1 v ws.length (wordV ws)) ∧ Hid (Blk W p 29 zerC) ∧ Hid (Below w.heap.size w W)) (fun _ _ x _ => nl + 1 - (intOf x).toNat)
  case atStart => exact ⟨0, [], [], rfl, rfl, by omega, SplAt.start L, World.ownsRow_nil _ _ _ _, HKX, HBX⟩
  case round =>
    obtain ⟨i, ws, word, rfl, rfl, hi, HSP, HO, HKP, HB⟩ := hrel
    have hsl := (unhide HSP).lens
    have hsz := (unhide HB).size
    obtain ⟨k, hk⟩ : ∃ k, k = ws.length := ⟨_, rfl⟩
    rw [← hk] at HO hsl
    have HMQ := hide (show (k + 1) * 16 ≤ 140737488355328 by have := unhide HL; omega)
    have HKE := hide hk
    obtain ⟨wd, hwd⟩ : ∃ wd, wd = bstr word := ⟨_, rfl⟩
    rw [← hwd]
    have hwi : wrap64 ((i : Int) + 1) = (i : Int) + 1 := by have := unhide HL; unfold wrap64; omega
    have HWI := hide hwi
    clear hwi
    have HWL := hide hsl
    have HI := hide hi
    have HWD := hide hwd
    clear hk hsl hi hwd
    by_cases hlt : i < nl
    · have hll : i < L.length := by rw [← unhide HNL]; exact hlt
      have hG := (unhide HG) i hll
      have hC := (unhide HK) i hll
      rw [← unhide HWI] at hC
      have hle : (i : Int) ≤ (nl : Int) := by omega
      have hne : ((i : Int) == (nl : Int)) = false := by simp; omega
      obtain ⟨kc, hkc⟩ : ∃ k : Int, k = ((L[i]'hll).toNat : Int) := ⟨_, rfl⟩
      rw [← hkc] at hG
      have HSB := hide (fun h => (unhide HSP).blank hll h)
      have HSM := hide (fun h => (unhide HSP).more hll h)
      have hkb := hide (show kc = 32 → L[i] = 32 from fun e => UInt8.toNat_inj.1 (by rw [show (32 : UInt8).toNat = 32 from rfl]; omega))
      have hkm := hide (show ¬ kc = 32 → ¬ L[i] = 32 from fun e h => e (by rw [hkc, h]; rfl))
      have hcat : wd ++ bstr [L[i]] = bstr (word ++ [L[i]]) := by rw [unhide HWD]; exact bstr_append _ _
      have hz1 : ¬ 9223372036854775807 < wd.size + (bstr [L[i]]).size := by rw [unhide HWD, bstr_size, bstr_size]; have := unhide HWL; have := unhide HL; simp; omega
      obtain ⟨S1, hS1⟩ : ∃ S1, S1 = bstr [L[i]] := ⟨_, rfl⟩
      obtain ⟨S2, hS2⟩ : ∃ S2, S2 = bstr (word ++ [L[i]]) := ⟨_, rfl⟩
      rw [← hS1] at hC hz1 hcat
      rw [← hS2] at hcat
      have HS2 := hide hS2
      have HLT := hide hlt
      clear hkc hS1 hS2 hlt
      by_cases hB : kc = 32
      · have hB2 : (kc == 32) = true := by simpa using hB
        go_wp2_with (at_builtin; (refine wpList_append_new _ rfl (.tmp 31) (.tmp 33) _ rfl w.heap.size 9 iS _ 1 16 Tryd.underlying42 hiS hzS hsS hyS rfl (by omega) (by omega) _ k _ (unhide HO) rfl _ 1 _ rfl rfl rfl (by simp [Value.oneCell']) (unhide HMQ) hsz ?_); intro g4 cap4 w4 hg4 hown4 hbel4 hgr4 hat4; have HO4 := hide hown4; have HB4 := hide (hbel4 w.heap.size w (Nat.le_refl _) (unhide HB)); have HK4 := hide ((unhide HKP).grown hgr4 (fun e => own_blk_ne (unhide HO) (unhide HKP) (by decide) e.symm)); clear hg4 hown4 hbel4 hgr4 hat4)
        go_roundw
        case rel => exact ⟨i + 1, ws ++ [word], [], by rw [unhide HWI]; rfl, rfl, by have := unhide HLT; omega, hide (unhide HSB (unhide hkb hB)), hide (by have h := unhide HO4; rw [unhide HWD] at h; rw [List.length_append, ← unhide HKE]; unfold wordV; rw [List.map_append]; exact h), HK4, HB4⟩
        case measure => have := unhide HLT; rw [unhide HWI]; simp [intOf]; omega
      · have hB2 : (kc == 32) = false := by simpa using hB
        go_wp2_with fail
        go_roundw
        case rel => exact ⟨i + 1, ws, word ++ [L[i]], by rw [unhide HWI]; rfl, by rw [unhide HS2], by have := unhide HLT; omega, hide (unhide HSM (unhide hkm hB)), by rw [← unhide HKE]; exact HO, HKP, HB⟩
        case measure => have := unhide HLT; rw [unhide HWI]; simp [intOf]; omega
    · by_cases hie : i = nl
      · have hle : (i : Int) ≤ (nl : Int) := by omega
        have hne : ((i : Int) == (nl : Int)) = true := by simp; omega
        have HSF := hide (show SplAt L (i + 1) (ws ++ [word]) [] by
          have h := unhide HSP
          rw [hie, unhide HNL] at h ⊢
          exact h.last)
        have HIE := hide hie
        clear hie hlt
        go_wp2_with (at_builtin; (refine wpList_append_new _ rfl (.tmp 31) (.tmp 33) _ rfl w.heap.size 9 iS _ 1 16 Tryd.underlying42 hiS hzS hsS hyS rfl (by omega) (by omega) _ k _ (unhide HO) rfl _ 1 _ rfl rfl rfl (by simp [Value.oneCell']) (unhide HMQ) hsz ?_); intro g4 cap4 w4 hg4 hown4 hbel4 hgr4 hat4; have HO4 := hide hown4; have HB4 := hide (hbel4 w.heap.size w (Nat.le_refl _) (unhide HB)); have HK4 := hide ((unhide HKP).grown hgr4 (fun e => own_blk_ne (unhide HO) (unhide HKP) (by decide) e.symm)); clear hg4 hown4 hbel4 hgr4 hat4)
        go_roundw
        case rel => exact ⟨i + 1, ws ++ [word], [], by rw [unhide HWI]; rfl, rfl, by have := unhide HIE; omega, HSF, hide (by have h := unhide HO4; rw [unhide HWD] at h; rw [List.length_append, ← unhide HKE]; unfold wordV; rw [List.map_append]; exact h), HK4, HB4⟩
        case measure => have := unhide HIE; rw [unhide HWI]; simp [intOf]; omega
      · have hle : ¬ (i : Int) ≤ (nl : Int) := by omega
        have HWS := hide ((unhide HSP).fin (by rw [← unhide HNL]; omega))
        have hZ5 := hide (show Blk (wr.alloc (.cells (numC [0, 0, 0, 0, 0]) 59)) wr.heap.size 59 (numC [0, 0, 0, 0, 0]) from Blk.new _ _ _)
        obtain ⟨A, cA, rfl, hcA⟩ := own_slice (unhide HO)
        have HRA := hide (show Reads wr wr.heap.size 1 A k (ws.map fun x => Value.string (bstr x)) from Reads.of_own (unhide HO))
        have HP5 := hide ((unhide HKP).alloc (.cells (numC [0, 0, 0, 0, 0]) 59))
        have HB5 := hide ((unhide HB).alloc hsz (.cells (numC [0, 0, 0, 0, 0]) 59))
        have HR5 := hide ((unhide HRA).alloc (Nat.le_refl _) (.cells (numC [0, 0, 0, 0, 0]) 59))
        clear hie hlt hiS hzS hsS hyS hcA
        go_wp2_with fail
        rw [show (#[.int .i64 0, .int .i64 0, .int .i64 0, .int .i64 0, .int .i64 0] : Array Value) = numC [0, 0, 0, 0, 0] from rfl]
        obtain ⟨a7, ha7⟩ : ∃ a7, a7 = wr.heap.size := ⟨_, rfl⟩
        rw [← ha7] at hZ5 HR5 ⊢
        have HA7 := hide ha7
        have HPA := hide (show p < a7 by rw [ha7]; exact (unhide HKP).lt)
        obtain ⟨w5, hw5⟩ : ∃ w5, w5 = wr.alloc (.cells (numC [0, 0, 0, 0, 0]) 59) := ⟨_, rfl⟩
        rw [← hw5] at hZ5 HP5 HB5 HR5 ⊢
        clear hw5 ha7 HO HKP HB hsz
        go_loopw [8] (fun x W => ∃ (j : Nat) (N : List Int), x = .int .i64 j ∧ j ≤ 5 ∧ Hid (NumsTo L N j) ∧ Hid (Blk W a7 59 (numC N)) ∧ Hid (Blk W p 29 zerC) ∧ Hid (Reads W a7 1 A k (ws.map fun x => Value.string (bstr x))) ∧ Hid (Below w.heap.size w W)) (fun x _ => 5 - (intOf x).toNat)
        case atStart => exact ⟨1, [0, 0, 0, 0, 0], rfl, by omega, NumsTo.start L, hZ5, HP5, HR5, HB5⟩
        case round =>
          obtain ⟨j, N, rfl, hj, HN, H7, HKP, HR, HB⟩ := hrel
          by_cases hjk : j < k
          · by_cases hj5 : j < 5
            · obtain ⟨ba, oa, x, rfl, _, hx, hcx⟩ := val_at (fun x => Value.string (bstr x)) (unhide HR) hjk
              have hjI : ((j : Int) < (k : Int)) := by omega
              have hjI5 : ((j : Int) < 5) := by omega
              have HXL := hide (show x.length ≤ 9223372036854775000 by have h1 := cut_piece L x (List.mem_of_getElem? (by rw [← unhide HWS]; exact hx)); have := unhide HL; have := unhide HNL; omega)
              have HU := hide (undeci_any x wr (unhide HXL))
              have HX := hide hx
              obtain ⟨X, hX⟩ : ∃ X, X = bstr x := ⟨_, rfl⟩
              rw [← hX] at hcx HU
              obtain ⟨z, hz⟩ : ∃ z, z = (undP x).1 := ⟨_, rfl⟩
              obtain ⟨bo, hbo⟩ : ∃ bo, bo = (undP x).2 := ⟨_, rfl⟩
              rw [← hz, ← hbo] at HU
              have HZ := hide hz
              have HBO := hide hbo
              clear hx hX hz hbo
              go_wp2_with fail
              refine (unhide HU).mono ?_
              rintro _ _ ⟨rfl, rfl⟩
              cases bo
              · have kz := unhide HKP
                have f0 := kz.frozen 0
                have f1 := kz.frozen 1
                have f2 := kz.frozen 2
                have f3 := kz.frozen 3
                have f4 := kz.frozen 4
                have f5 := kz.frozen 5
                have f6 := kz.frozen 6
                have f7 := kz.frozen 7
                have c0 : wr.cell? ⟨p, 0, none⟩ = some (.int .i64 0) := kz.cell 0
                have c1 : wr.cell? ⟨p, 1, none⟩ = some (.int .i64 0) := kz.cell 1
                have c2 : wr.cell? ⟨p, 2, none⟩ = some (.int .i64 0) := kz.cell 2
                have c3 : wr.cell? ⟨p, 3, none⟩ = some (.int .i64 0) := kz.cell 3
                have c4 : wr.cell? ⟨p, 4, none⟩ = some (.int .i64 0) := kz.cell 4
                have c5 : wr.cell? ⟨p, 5, none⟩ = some (.int .i64 0) := kz.cell 5
                have c6 : wr.cell? ⟨p, 6, none⟩ = some (.int .i64 0) := kz.cell 6
                have c7 : wr.cell? ⟨p, 7, none⟩ = some (.int .i64 0) := kz.cell 7
                clear kz
                go_wp2_with fail
                change bodyPost _ _ _ _ _ (wr8 wr p 0 0 0 0 0 0 0 0)
                have kz := wr8_blk (unhide HKP) rfl 0 0 0 0 0 0 0 0
                have HB8 := hide (wr8_below (p := p) (unhide HB) (by have := unhide HP; omega) 0 0 0 0 0 0 0 0)
                clear f0 f1 f2 f3 f4 f5 f6 f7 c0 c1 c2 c3 c4 c5 c6 c7
                generalize wr8 wr p 0 0 0 0 0 0 0 0 = W8 at kz HB8 ⊢
                have c0 : W8.cell? ⟨p, 0, none⟩ = some (.int .i64 0) := kz.cell 0
                have c1 : W8.cell? ⟨p, 1, none⟩ = some (.int .i64 0) := kz.cell 1
                have c2 : W8.cell? ⟨p, 2, none⟩ = some (.int .i64 0) := kz.cell 2
                have c3 : W8.cell? ⟨p, 3, none⟩ = some (.int .i64 0) := kz.cell 3
                have c4 : W8.cell? ⟨p, 4, none⟩ = some (.int .i64 0) := kz.cell 4
                have c5 : W8.cell? ⟨p, 5, none⟩ = some (.int .i64 0) := kz.cell 5
                have c6 : W8.cell? ⟨p, 6, none⟩ = some (.int .i64 0) := kz.cell 6
                have c7 : W8.cell? ⟨p, 7, none⟩ = some (.int .i64 0) := kz.cell 7
                refine bodyPost_ret (v := .tuple #[stpV [0, 0, 0, 0, 0, 0, 0, 0], .int .i64 4]) (by simp [results, Tryd.results12, go_sem, stpV, c0, c1, c2, c3, c4, c5, c6, c7]) rfl ?_
                exact ⟨_, _, rfl, Or.inr ⟨rfl, rfl, Or.inl ⟨j, x, (unhide HN).2.1, by rw [← unhide HWS]; exact unhide HX, (unhide HBO).symm⟩⟩, rfl, unhide HB8⟩
              · have hc7 := (unhide H7).cell j
                rw [numC_get (by have := (unhide HN).1; omega)] at hc7
                have hf7 := (unhide H7).frozen j
                go_wp2_with fail
                go_roundw
                case rel =>
                  have hb7 := (unhide H7).set_ j (.int .i64 z)
                  rw [numC_set] at hb7
                  have hN2 := (unhide HN).next hj5 (by rw [← unhide HWS]; exact unhide HX) (unhide HBO).symm
                  rw [← unhide HZ] at hN2
                  exact ⟨j + 1, N.set j z, by go_num, by omega, hide hN2, hide hb7, hide ((unhide HKP).far (by have := unhide HPA; simp; omega) _), hide ((unhide HR).setCell (by simp) _), hide ((unhide HB).setCell (p := ⟨a7, j, none⟩) (by have := (unhide HBX).size; have := unhide HPA; have := unhide HP; simp; omega) _)⟩
                case measure => simp [intOf]; omega
            · have hjI : ((j : Int) < (k : Int)) := by omega
              have hjI5 : ¬ ((j : Int) < 5) := by omega
              have HF := hide ((unhide HN).fin (fun h => hj5 h.2))
              clear hjk
              go_wp2_with fail
              clear hj5 hjI hjI5
              clear HR HN hj
              go_loopw [11] (fun x W => ∃ m : Nat, x = .int .i64 ((m : Int) + 1) ∧ m ≤ 11 ∧ Hid (∀ m' : Nat, m' < m → showP (refS m' N) ≠ (L, 0)) ∧ Hid (Blk W a7 59 (numC N)) ∧ Hid (Blk W p 29 zerC) ∧ Hid (Below w.heap.size w W)) (fun x _ => 12 - (intOf x).toNat)
              case atStart => exact ⟨0, rfl, by omega, hide (fun m' h => by omega), H7, HKP, HB⟩
              case round =>
                obtain ⟨m, rfl, hm, HM, H7, HKP, HB⟩ := hrel
                by_cases hm11 : m < 11
                · have hml : (m : Int) + 1 ≤ 11 := by omega
                  go_upto_block 6 with fail
                  obtain ⟨q, hq⟩ : ∃ q, q = wr.heap.size := ⟨_, rfl⟩
                  obtain ⟨wy, hwy⟩ : ∃ wy, wy = wr.alloc (.cells (stpC (zeroS m)) 29) := ⟨_, rfl⟩
                  rw [show (#[.int .i64 ((m : Int) + 1), .int .i64 0, .int .i64 0, .int .i64 0, .int .i64 0, .int .i64 0, .int .i64 0, .int .i64 0] : Array Value) = stpC (zeroS m) from rfl, ← hq, ← hwy]
                  have HKQ := hide (show Blk wy q 29 (stpC (zeroS m)) by rw [hwy, hq]; exact Blk.new _ _ _)
                  have H7y := hide (show Blk wy a7 59 (numC N) by rw [hwy]; exact (unhide H7).alloc _)
                  have HPy := hide (show Blk wy p 29 zerC by rw [hwy]; exact (unhide HKP).alloc _)
                  have HBy := hide (show Below w.heap.size w wy by rw [hwy]; exact (unhide HB).alloc (unhide HB).size _)
                  have HQW := hide (show w.heap.size ≤ q ∧ p < q ∧ a7 < q by rw [hq]; exact ⟨(unhide HB).size, (unhide HKP).lt, (unhide H7).lt⟩)
                  have HNL5 := hide (unhide HF).1
                  clear hq hwy H7 HKP HB
                  go_cut [73] (fun s73 W => Hid (StepCut w p a7 q m N W))
                  case first =>
                    have kq := unhide HKQ
                    have k7 := unhide H7y
                    have f0 := kq.frozen 0
                    have f1 := kq.frozen 1
                    have f2 := kq.frozen 2
                    have f3 := kq.frozen 3
                    have f4 := kq.frozen 4
                    have f5 := kq.frozen 5
                    have f6 := kq.frozen 6
                    have f7 := kq.frozen 7
                    have c0 : wy.cell? ⟨q, 0, none⟩ = some (.int .i64 ((m : Int) + 1)) := kq.cell 0
                    have c1 : wy.cell? ⟨q, 1, none⟩ = some (.int .i64 0) := kq.cell 1
                    have c2 : wy.cell? ⟨q, 2, none⟩ = some (.int .i64 0) := kq.cell 2
                    have c3 : wy.cell? ⟨q, 3, none⟩ = some (.int .i64 0) := kq.cell 3
                    have c4 : wy.cell? ⟨q, 4, none⟩ = some (.int .i64 0) := kq.cell 4
                    have c5 : wy.cell? ⟨q, 5, none⟩ = some (.int .i64 0) := kq.cell 5
                    have c6 : wy.cell? ⟨q, 6, none⟩ = some (.int .i64 0) := kq.cell 6
                    have c7 : wy.cell? ⟨q, 7, none⟩ = some (.int .i64 0) := kq.cell 7
                    have e1 : wy.cell? ⟨a7, 1, none⟩ = some (.int .i64 (fld N 1)) := (k7.cell 1).trans (numC_get (by have := unhide HNL5; omega))
                    have e2 : wy.cell? ⟨a7, 2, none⟩ = some (.int .i64 (fld N 2)) := (k7.cell 2).trans (numC_get (by have := unhide HNL5; omega))
                    have e3 : wy.cell? ⟨a7, 3, none⟩ = some (.int .i64 (fld N 3)) := (k7.cell 3).trans (numC_get (by have := unhide HNL5; omega))
                    have e4 : wy.cell? ⟨a7, 4, none⟩ = some (.int .i64 (fld N 4)) := (k7.cell 4).trans (numC_get (by have := unhide HNL5; omega))
                    have CUT := hide (fun x0 x1 x2 x3 x4 x5 x6 x7 hx => step_cut (N := N) kq k7 (unhide HPy) (unhide HBy) (unhide HQW) x0 x1 x2 x3 x4 x5 x6 x7 hx)
                    have CUT0 := hide (fun hx => step_cut0 (N := N) kq k7 (unhide HPy) (unhide HBy) hx)
                    clear kq k7 hml
                    obtain ⟨kd, hkd⟩ : ∃ kd : Int, kd = (m : Int) + 1 := ⟨_, rfl⟩
                    rw [← hkd] at c0 ⊢
                    have hm' : m = 0 ∨ m = 1 ∨ m = 2 ∨ m = 3 ∨ m = 4 ∨ m = 5 ∨ m = 6 ∨ m = 7 ∨ m = 8 ∨ m = 9 ∨ m = 10 := by omega
                    clear hm11 hm
                    rcases hm' with rfl | rfl | rfl | rfl | rfl | rfl | rfl | rfl | rfl | rfl | rfl
                    · obtain rfl : kd = 1 := by omega
                      clear hkd
                      go_wp2_with fail
                      go_meet
                      exact unhide CUT 1 (fld N 1) (fld N 2) (fld N 3) 0 0 0 0 rfl
                    · obtain rfl : kd = 2 := by omega
                      clear hkd
                      go_wp2_with fail
                      go_meet
                      exact unhide CUT 2 (fld N 1) (fld N 2) (fld N 3) 0 0 0 0 rfl
                    · obtain rfl : kd = 3 := by omega
                      clear hkd
                      go_wp2_with fail
                      go_meet
                      exact unhide CUT 3 (fld N 1) (fld N 2) (fld N 3) (fld N 4) 0 0 0 rfl
                    · obtain rfl : kd = 4 := by omega
                      clear hkd
                      go_wp2_with fail
                      go_meet
                      exact unhide CUT 4 (fld N 1) (fld N 2) 0 0 (fld N 3) 0 0 rfl
                    · obtain rfl : kd = 5 := by omega
                      clear hkd
                      go_wp2_with fail
                      go_meet
                      exact unhide CUT 5 (fld N 1) (fld N 2) 0 0 (fld N 3) 0 0 rfl
                    · obtain rfl : kd = 6 := by omega
                      clear hkd
                      go_wp2_with fail
                      go_meet
                      exact unhide CUT 6 (fld N 1) (fld N 2) (fld N 3) 0 0 0 0 rfl
                    · obtain rfl : kd = 7 := by omega
                      clear hkd
                      go_wp2_with fail
                      go_meet
                      exact unhide CUT 7 (fld N 1) 0 (fld N 4) 0 0 (fld N 2) (fld N 3) rfl
                    · obtain rfl : kd = 8 := by omega
                      clear hkd
                      go_wp2_with fail
                      go_meet
                      exact unhide CUT 8 (fld N 1) 0 0 0 0 (fld N 2) (fld N 3) rfl
                    · obtain rfl : kd = 9 := by omega
                      clear hkd
                      go_wp2_with fail
                      go_meet
                      exact unhide CUT0 rfl
                    · obtain rfl : kd = 10 := by omega
                      clear hkd
                      go_wp2_with fail
                      go_meet
                      exact unhide CUT 10 0 0 0 0 (fld N 1) 0 0 rfl
                    · obtain rfl : kd = 11 := by omega
                      clear hkd
                      go_wp2_with fail
                      go_meet
                      exact unhide CUT 11 0 0 0 0 (fld N 1) 0 0 rfl
                  case rest =>
                    obtain ⟨kq, k7, kp, hbw⟩ := unhide hcut
                    obtain ⟨x0, x1, x2, x3, x4, x5, x6, x7, hx⟩ := ref_eight m N
                    have HI := hide (ref_i64 (unhide HF) m hm11)
                    have hsh := showP_ref m hm11 N
                    obtain ⟨ln, hln⟩ : ∃ ln, ln = Lib.join (wordL m :: ([fld N 1, fld N 2, fld N 3, fld N 4].take (selL m).length).map Lib.itoa) [32] := ⟨_, rfl⟩
                    rw [← hln] at hsh
                    have HSH := hide hsh
                    have HC := hide (shown_any x0 x1 x2 x3 x4 x5 x6 x7 wc (fun x hxm => unhide HI x (by rw [hx]; exact List.mem_cons_of_mem _ hxm)))
                    unfold ShowPost at HC
                    rw [← hx, hsh] at HC
                    dsimp only at HC
                    rw [hx] at kq
                    have g0 : wc.cell? ⟨q, 0, none⟩ = some (.int .i64 x0) := kq.cell 0
                    have g1 : wc.cell? ⟨q, 1, none⟩ = some (.int .i64 x1) := kq.cell 1
                    have g2 : wc.cell? ⟨q, 2, none⟩ = some (.int .i64 x2) := kq.cell 2
                    have g3 : wc.cell? ⟨q, 3, none⟩ = some (.int .i64 x3) := kq.cell 3
                    have g4 : wc.cell? ⟨q, 4, none⟩ = some (.int .i64 x4) := kq.cell 4
                    have g5 : wc.cell? ⟨q, 5, none⟩ = some (.int .i64 x5) := kq.cell 5
                    have g6 : wc.cell? ⟨q, 6, none⟩ = some (.int .i64 x6) := kq.cell 6
                    have g7 : wc.cell? ⟨q, 7, none⟩ = some (.int .i64 x7) := kq.cell 7
                    have KQ := hide kq
                    have K7 := hide k7
                    have KP := hide kp
                    have BW := hide hbw
                    have HXE := hide hx
                    obtain ⟨X, hX⟩ : ∃ X, X = bstr ln := ⟨_, rfl⟩
                    rw [← hX] at HC
                    have HEQ := hide (show (X.toList == S.toList) = (ln == L) by rw [hX, unhide HS]; simp [bstr])
                    clear kq k7 kp hbw hsh hln hX hx
                    go_wp2_with fail
                    refine (unhide HC).mono ?_
                    rintro _ w9 ⟨rfl, hb9⟩
                    have K9 := hide ((unhide KQ).below hb9 (unhide KQ).lt)
                    have K79 := hide ((unhide K7).below hb9 (unhide K7).lt)
                    have KP9 := hide ((unhide KP).below hb9 (unhide KP).lt)
                    have B9 := hide ((unhide BW).trans (hb9.mono (unhide BW).size))
                    clear g0 g1 g2 g3 g4 g5 g6 g7 hb9
                    by_cases he : ln = L
                    · have hE : (X.toList == S.toList) = true := by rw [unhide HEQ]; simpa using he
                      have kz := unhide KP9
                      have kq := unhide K9
                      have f0 := kz.frozen 0
                      have f1 := kz.frozen 1
                      have f2 := kz.frozen 2
                      have f3 := kz.frozen 3
                      have f4 := kz.frozen 4
                      have f5 := kz.frozen 5
                      have f6 := kz.frozen 6
                      have f7 := kz.frozen 7
                      have c0 : w9.cell? ⟨p, 0, none⟩ = some (.int .i64 0) := kz.cell 0
                      have c1 : w9.cell? ⟨p, 1, none⟩ = some (.int .i64 0) := kz.cell 1
                      have c2 : w9.cell? ⟨p, 2, none⟩ = some (.int .i64 0) := kz.cell 2
                      have c3 : w9.cell? ⟨p, 3, none⟩ = some (.int .i64 0) := kz.cell 3
                      have c4 : w9.cell? ⟨p, 4, none⟩ = some (.int .i64 0) := kz.cell 4
                      have c5 : w9.cell? ⟨p, 5, none⟩ = some (.int .i64 0) := kz.cell 5
                      have c6 : w9.cell? ⟨p, 6, none⟩ = some (.int .i64 0) := kz.cell 6
                      have c7 : w9.cell? ⟨p, 7, none⟩ = some (.int .i64 0) := kz.cell 7
                      have g0 : w9.cell? ⟨q, 0, none⟩ = some (.int .i64 x0) := kq.cell 0
                      have g1 : w9.cell? ⟨q, 1, none⟩ = some (.int .i64 x1) := kq.cell 1
                      have g2 : w9.cell? ⟨q, 2, none⟩ = some (.int .i64 x2) := kq.cell 2
                      have g3 : w9.cell? ⟨q, 3, none⟩ = some (.int .i64 x3) := kq.cell 3
                      have g4 : w9.cell? ⟨q, 4, none⟩ = some (.int .i64 x4) := kq.cell 4
                      have g5 : w9.cell? ⟨q, 5, none⟩ = some (.int .i64 x5) := kq.cell 5
                      have g6 : w9.cell? ⟨q, 6, none⟩ = some (.int .i64 x6) := kq.cell 6
                      have g7 : w9.cell? ⟨q, 7, none⟩ = some (.int .i64 x7) := kq.cell 7
                      have HE := hide he
                      clear kz kq he
                      go_wp2_with fail
                      change bodyPost _ _ _ _ _ (wr8 w9 p x0 x1 x2 x3 x4 x5 x6 x7)
                      have kz := wr8_blk (unhide KP9) rfl x0 x1 x2 x3 x4 x5 x6 x7
                      have HB8 := hide (wr8_below (p := p) (unhide B9) (by have := unhide HP; omega) x0 x1 x2 x3 x4 x5 x6 x7)
                      clear f0 f1 f2 f3 f4 f5 f6 f7 c0 c1 c2 c3 c4 c5 c6 c7 g0 g1 g2 g3 g4 g5 g6 g7
                      generalize wr8 w9 p x0 x1 x2 x3 x4 x5 x6 x7 = W8 at kz HB8 ⊢
                      have c0 : W8.cell? ⟨p, 0, none⟩ = some (.int .i64 x0) := kz.cell 0
                      have c1 : W8.cell? ⟨p, 1, none⟩ = some (.int .i64 x1) := kz.cell 1
                      have c2 : W8.cell? ⟨p, 2, none⟩ = some (.int .i64 x2) := kz.cell 2
                      have c3 : W8.cell? ⟨p, 3, none⟩ = some (.int .i64 x3) := kz.cell 3
                      have c4 : W8.cell? ⟨p, 4, none⟩ = some (.int .i64 x4) := kz.cell 4
                      have c5 : W8.cell? ⟨p, 5, none⟩ = some (.int .i64 x5) := kz.cell 5
                      have c6 : W8.cell? ⟨p, 6, none⟩ = some (.int .i64 x6) := kz.cell 6
                      have c7 : W8.cell? ⟨p, 7, none⟩ = some (.int .i64 x7) := kz.cell 7
                      refine bodyPost_ret (v := .tuple #[stpV [x0, x1, x2, x3, x4, x5, x6, x7], .int .i64 0]) (by simp [results, Tryd.results12, go_sem, stpV, c0, c1, c2, c3, c4, c5, c6, c7]) rfl ?_
                      exact ⟨_, _, rfl, Or.inl ⟨m, N, hm11, unhide HF, (unhide HXE).symm, by rw [← unhide HXE, unhide HSH, unhide HE], rfl⟩, rfl, unhide HB8⟩
                    · have hE : (X.toList == S.toList) = false := by rw [unhide HEQ]; simpa using he
                      have HE := hide he
                      clear he
                      go_wp2_with fail
                      go_roundw
                      case rel => exact ⟨m + 1, by go_num, by omega, hide (fun m' hm' => by
                        by_cases hmm : m' < m
                        · exact unhide HM m' hmm
                        · obtain rfl : m' = m := by omega
                          rw [unhide HSH]
                          exact fun h => unhide HE (Prod.mk.inj h).1), K79, KP9, B9⟩
                      case measure => simp [intOf]; omega
                · obtain rfl : m = 11 := by omega
                  have kz := unhide HKP
                  have f0 := kz.frozen 0
                  have f1 := kz.frozen 1
                  have f2 := kz.frozen 2
                  have f3 := kz.frozen 3
                  have f4 := kz.frozen 4
                  have f5 := kz.frozen 5
                  have f6 := kz.frozen 6
                  have f7 := kz.frozen 7
                  have c0 : wr.cell? ⟨p, 0, none⟩ = some (.int .i64 0) := kz.cell 0
                  have c1 : wr.cell? ⟨p, 1, none⟩ = some (.int .i64 0) := kz.cell 1
                  have c2 : wr.cell? ⟨p, 2, none⟩ = some (.int .i64 0) := kz.cell 2
                  have c3 : wr.cell? ⟨p, 3, none⟩ = some (.int .i64 0) := kz.cell 3
                  have c4 : wr.cell? ⟨p, 4, none⟩ = some (.int .i64 0) := kz.cell 4
                  have c5 : wr.cell? ⟨p, 5, none⟩ = some (.int .i64 0) := kz.cell 5
                  have c6 : wr.cell? ⟨p, 6, none⟩ = some (.int .i64 0) := kz.cell 6
                  have c7 : wr.cell? ⟨p, 7, none⟩ = some (.int .i64 0) := kz.cell 7
                  clear kz
                  go_wp2_with fail
                  change bodyPost _ _ _ _ _ (wr8 wr p 0 0 0 0 0 0 0 0)
                  have kz := wr8_blk (unhide HKP) rfl 0 0 0 0 0 0 0 0
                  have HB8 := hide (wr8_below (p := p) (unhide HB) (by have := unhide HP; omega) 0 0 0 0 0 0 0 0)
                  clear f0 f1 f2 f3 f4 f5 f6 f7 c0 c1 c2 c3 c4 c5 c6 c7
                  generalize wr8 wr p 0 0 0 0 0 0 0 0 = W8 at kz HB8 ⊢
                  have c0 : W8.cell? ⟨p, 0, none⟩ = some (.int .i64 0) := kz.cell 0
                  have c1 : W8.cell? ⟨p, 1, none⟩ = some (.int .i64 0) := kz.cell 1
                  have c2 : W8.cell? ⟨p, 2, none⟩ = some (.int .i64 0) := kz.cell 2
                  have c3 : W8.cell? ⟨p, 3, none⟩ = some (.int .i64 0) := kz.cell 3
                  have c4 : W8.cell? ⟨p, 4, none⟩ = some (.int .i64 0) := kz.cell 4
                  have c5 : W8.cell? ⟨p, 5, none⟩ = some (.int .i64 0) := kz.cell 5
                  have c6 : W8.cell? ⟨p, 6, none⟩ = some (.int .i64 0) := kz.cell 6
                  have c7 : W8.cell? ⟨p, 7, none⟩ = some (.int .i64 0) := kz.cell 7
                  refine bodyPost_ret (v := .tuple #[stpV [0, 0, 0, 0, 0, 0, 0, 0], .int .i64 4]) (by simp [results, Tryd.results12, go_sem, stpV, c0, c1, c2, c3, c4, c5, c6, c7]) rfl ?_
                  exact ⟨_, _, rfl, Or.inr ⟨rfl, rfl, Or.inr ⟨N, unhide HF, unhide HM⟩⟩, rfl, unhide HB8⟩
          · have hjI : ¬ ((j : Int) < (k : Int)) := by omega
            have HF := hide ((unhide HN).fin (fun h => hjk (by rw [unhide HKE, unhide HWS]; exact h.1)))
            go_wp2_with fail
            clear hjI hjk
            clear HR HN hj
            go_loopw [11] (fun x W => ∃ m : Nat, x = .int .i64 ((m : Int) + 1) ∧ m ≤ 11 ∧ Hid (∀ m' : Nat, m' < m → showP (refS m' N) ≠ (L, 0)) ∧ Hid (Blk W a7 59 (numC N)) ∧ Hid (Blk W p 29 zerC) ∧ Hid (Below w.heap.size w W)) (fun x _ => 12 - (intOf x).toNat)
            case atStart => exact ⟨0, rfl, by omega, hide (fun m' h => by omega), H7, HKP, HB⟩
            case round =>
              obtain ⟨m, rfl, hm, HM, H7, HKP, HB⟩ := hrel
              by_cases hm11 : m < 11
              · have hml : (m : Int) + 1 ≤ 11 := by omega
                go_upto_block 6 with fail
                obtain ⟨q, hq⟩ : ∃ q, q = wr.heap.size := ⟨_, rfl⟩
                obtain ⟨wy, hwy⟩ : ∃ wy, wy = wr.alloc (.cells (stpC (zeroS m)) 29) := ⟨_, rfl⟩
                rw [show (#[.int .i64 ((m : Int) + 1), .int .i64 0, .int .i64 0, .int .i64 0, .int .i64 0, .int .i64 0, .int .i64 0, .int .i64 0] : Array Value) = stpC (zeroS m) from rfl, ← hq, ← hwy]
                have HKQ := hide (show Blk wy q 29 (stpC (zeroS m)) by rw [hwy, hq]; exact Blk.new _ _ _)
                have H7y := hide (show Blk wy a7 59 (numC N) by rw [hwy]; exact (unhide H7).alloc _)
                have HPy := hide (show Blk wy p 29 zerC by rw [hwy]; exact (unhide HKP).alloc _)
                have HBy := hide (show Below w.heap.size w wy by rw [hwy]; exact (unhide HB).alloc (unhide HB).size _)
                have HQW := hide (show w.heap.size ≤ q ∧ p < q ∧ a7 < q by rw [hq]; exact ⟨(unhide HB).size, (unhide HKP).lt, (unhide H7).lt⟩)
                have HNL5 := hide (unhide HF).1
                clear hq hwy H7 HKP HB
                go_cut [73] (fun s73 W => Hid (StepCut w p a7 q m N W))
                case first =>
                  have kq := unhide HKQ
                  have k7 := unhide H7y
                  have f0 := kq.frozen 0
                  have f1 := kq.frozen 1
                  have f2 := kq.frozen 2
                  have f3 := kq.frozen 3
                  have f4 := kq.frozen 4
                  have f5 := kq.frozen 5
                  have f6 := kq.frozen 6
                  have f7 := kq.frozen 7
                  have c0 : wy.cell? ⟨q, 0, none⟩ = some (.int .i64 ((m : Int) + 1)) := kq.cell 0
                  have c1 : wy.cell? ⟨q, 1, none⟩ = some (.int .i64 0) := kq.cell 1
                  have c2 : wy.cell? ⟨q, 2, none⟩ = some (.int .i64 0) := kq.cell 2
                  have c3 : wy.cell? ⟨q, 3, none⟩ = some (.int .i64 0) := kq.cell 3
                  have c4 : wy.cell? ⟨q, 4, none⟩ = some (.int .i64 0) := kq.cell 4
                  have c5 : wy.cell? ⟨q, 5, none⟩ = some (.int .i64 0) := kq.cell 5
                  have c6 : wy.cell? ⟨q, 6, none⟩ = some (.int .i64 0) := kq.cell 6
                  have c7 : wy.cell? ⟨q, 7, none⟩ = some (.int .i64 0) := kq.cell 7
                  have e1 : wy.cell? ⟨a7, 1, none⟩ = some (.int .i64 (fld N 1)) := (k7.cell 1).trans (numC_get (by have := unhide HNL5; omega))
                  have e2 : wy.cell? ⟨a7, 2, none⟩ = some (.int .i64 (fld N 2)) := (k7.cell 2).trans (numC_get (by have := unhide HNL5; omega))
                  have e3 : wy.cell? ⟨a7, 3, none⟩ = some (.int .i64 (fld N 3)) := (k7.cell 3).trans (numC_get (by have := unhide HNL5; omega))
                  have e4 : wy.cell? ⟨a7, 4, none⟩ = some (.int .i64 (fld N 4)) := (k7.cell 4).trans (numC_get (by have := unhide HNL5; omega))
                  have CUT := hide (fun x0 x1 x2 x3 x4 x5 x6 x7 hx => step_cut (N := N) kq k7 (unhide HPy) (unhide HBy) (unhide HQW) x0 x1 x2 x3 x4 x5 x6 x7 hx)
                  have CUT0 := hide (fun hx => step_cut0 (N := N) kq k7 (unhide HPy) (unhide HBy) hx)
                  clear kq k7 hml
                  obtain ⟨kd, hkd⟩ : ∃ kd : Int, kd = (m : Int) + 1 := ⟨_, rfl⟩
                  rw [← hkd] at c0 ⊢
                  have hm' : m = 0 ∨ m = 1 ∨ m = 2 ∨ m = 3 ∨ m = 4 ∨ m = 5 ∨ m = 6 ∨ m = 7 ∨ m = 8 ∨ m = 9 ∨ m = 10 := by omega
                  clear hm11 hm
                  rcases hm' with rfl | rfl | rfl | rfl | rfl | rfl | rfl | rfl | rfl | rfl | rfl
                  · obtain rfl : kd = 1 := by omega
                    clear hkd
                    go_wp2_with fail
                    go_meet
                    exact unhide CUT 1 (fld N 1) (fld N 2) (fld N 3) 0 0 0 0 rfl
                  · obtain rfl : kd = 2 := by omega
                    clear hkd
                    go_wp2_with fail
                    go_meet
                    exact unhide CUT 2 (fld N 1) (fld N 2) (fld N 3) 0 0 0 0 rfl
                  · obtain rfl : kd = 3 := by omega
                    clear hkd
                    go_wp2_with fail
                    go_meet
                    exact unhide CUT 3 (fld N 1) (fld N 2) (fld N 3) (fld N 4) 0 0 0 rfl
                  · obtain rfl : kd = 4 := by omega
                    clear hkd
                    go_wp2_with fail
                    go_meet
                    exact unhide CUT 4 (fld N 1) (fld N 2) 0 0 (fld N 3) 0 0 rfl
                  · obtain rfl : kd = 5 := by omega
                    clear hkd
                    go_wp2_with fail
                    go_meet
                    exact unhide CUT 5 (fld N 1) (fld N 2) 0 0 (fld N 3) 0 0 rfl
                  · obtain rfl : kd = 6 := by omega
                    clear hkd
                    go_wp2_with fail
                    go_meet
                    exact unhide CUT 6 (fld N 1) (fld N 2) (fld N 3) 0 0 0 0 rfl
                  · obtain rfl : kd = 7 := by omega
                    clear hkd
                    go_wp2_with fail
                    go_meet
                    exact unhide CUT 7 (fld N 1) 0 (fld N 4) 0 0 (fld N 2) (fld N 3) rfl
                  · obtain rfl : kd = 8 := by omega
                    clear hkd
                    go_wp2_with fail
                    go_meet
                    exact unhide CUT 8 (fld N 1) 0 0 0 0 (fld N 2) (fld N 3) rfl
                  · obtain rfl : kd = 9 := by omega
                    clear hkd
                    go_wp2_with fail
                    go_meet
                    exact unhide CUT0 rfl
                  · obtain rfl : kd = 10 := by omega
                    clear hkd
                    go_wp2_with fail
                    go_meet
                    exact unhide CUT 10 0 0 0 0 (fld N 1) 0 0 rfl
                  · obtain rfl : kd = 11 := by omega
                    clear hkd
                    go_wp2_with fail
                    go_meet
                    exact unhide CUT 11 0 0 0 0 (fld N 1) 0 0 rfl
                case rest =>
                  obtain ⟨kq, k7, kp, hbw⟩ := unhide hcut
                  obtain ⟨x0, x1, x2, x3, x4, x5, x6, x7, hx⟩ := ref_eight m N
                  have HI := hide (ref_i64 (unhide HF) m hm11)
                  have hsh := showP_ref m hm11 N
                  obtain ⟨ln, hln⟩ : ∃ ln, ln = Lib.join (wordL m :: ([fld N 1, fld N 2, fld N 3, fld N 4].take (selL m).length).map Lib.itoa) [32] := ⟨_, rfl⟩
                  rw [← hln] at hsh
                  have HSH := hide hsh
                  have HC := hide (shown_any x0 x1 x2 x3 x4 x5 x6 x7 wc (fun x hxm => unhide HI x (by rw [hx]; exact List.mem_cons_of_mem _ hxm)))
                  unfold ShowPost at HC
                  rw [← hx, hsh] at HC
                  dsimp only at HC
                  rw [hx] at kq
                  have g0 : wc.cell? ⟨q, 0, none⟩ = some (.int .i64 x0) := kq.cell 0
                  have g1 : wc.cell? ⟨q, 1, none⟩ = some (.int .i64 x1) := kq.cell 1
                  have g2 : wc.cell? ⟨q, 2, none⟩ = some (.int .i64 x2) := kq.cell 2
                  have g3 : wc.cell? ⟨q, 3, none⟩ = some (.int .i64 x3) := kq.cell 3
                  have g4 : wc.cell? ⟨q, 4, none⟩ = some (.int .i64 x4) := kq.cell 4
                  have g5 : wc.cell? ⟨q, 5, none⟩ = some (.int .i64 x5) := kq.cell 5
                  have g6 : wc.cell? ⟨q, 6, none⟩ = some (.int .i64 x6) := kq.cell 6
                  have g7 : wc.cell? ⟨q, 7, none⟩ = some (.int .i64 x7) := kq.cell 7
                  have KQ := hide kq
                  have K7 := hide k7
                  have KP := hide kp
                  have BW := hide hbw
                  have HXE := hide hx
                  obtain ⟨X, hX⟩ : ∃ X, X = bstr ln := ⟨_, rfl⟩
                  rw [← hX] at HC
                  have HEQ := hide (show (X.toList == S.toList) = (ln == L) by rw [hX, unhide HS]; simp [bstr])
                  clear kq k7 kp hbw hsh hln hX hx
                  go_wp2_with fail
                  refine (unhide HC).mono ?_
                  rintro _ w9 ⟨rfl, hb9⟩
                  have K9 := hide ((unhide KQ).below hb9 (unhide KQ).lt)
                  have K79 := hide ((unhide K7).below hb9 (unhide K7).lt)
                  have KP9 := hide ((unhide KP).below hb9 (unhide KP).lt)
                  have B9 := hide ((unhide BW).trans (hb9.mono (unhide BW).size))
                  clear g0 g1 g2 g3 g4 g5 g6 g7 hb9
                  by_cases he : ln = L
                  · have hE : (X.toList == S.toList) = true := by rw [unhide HEQ]; simpa using he
                    have kz := unhide KP9
                    have kq := unhide K9
                    have f0 := kz.frozen 0
                    have f1 := kz.frozen 1
                    have f2 := kz.frozen 2
                    have f3 := kz.frozen 3
                    have f4 := kz.frozen 4
                    have f5 := kz.frozen 5
                    have f6 := kz.frozen 6
                    have f7 := kz.frozen 7
                    have c0 : w9.cell? ⟨p, 0, none⟩ = some (.int .i64 0) := kz.cell 0
                    have c1 : w9.cell? ⟨p, 1, none⟩ = some (.int .i64 0) := kz.cell 1
                    have c2 : w9.cell? ⟨p, 2, none⟩ = some (.int .i64 0) := kz.cell 2
                    have c3 : w9.cell? ⟨p, 3, none⟩ = some (.int .i64 0) := kz.cell 3
                    have c4 : w9.cell? ⟨p, 4, none⟩ = some (.int .i64 0) := kz.cell 4
                    have c5 : w9.cell? ⟨p, 5, none⟩ = some (.int .i64 0) := kz.cell 5
                    have c6 : w9.cell? ⟨p, 6, none⟩ = some (.int .i64 0) := kz.cell 6
                    have c7 : w9.cell? ⟨p, 7, none⟩ = some (.int .i64 0) := kz.cell 7
                    have g0 : w9.cell? ⟨q, 0, none⟩ = some (.int .i64 x0) := kq.cell 0
                    have g1 : w9.cell? ⟨q, 1, none⟩ = some (.int .i64 x1) := kq.cell 1
                    have g2 : w9.cell? ⟨q, 2, none⟩ = some (.int .i64 x2) := kq.cell 2
                    have g3 : w9.cell? ⟨q, 3, none⟩ = some (.int .i64 x3) := kq.cell 3
                    have g4 : w9.cell? ⟨q, 4, none⟩ = some (.int .i64 x4) := kq.cell 4
                    have g5 : w9.cell? ⟨q, 5, none⟩ = some (.int .i64 x5) := kq.cell 5
                    have g6 : w9.cell? ⟨q, 6, none⟩ = some (.int .i64 x6) := kq.cell 6
                    have g7 : w9.cell? ⟨q, 7, none⟩ = some (.int .i64 x7) := kq.cell 7
                    have HE := hide he
                    clear kz kq he
                    go_wp2_with fail
                    change bodyPost _ _ _ _ _ (wr8 w9 p x0 x1 x2 x3 x4 x5 x6 x7)
                    have kz := wr8_blk (unhide KP9) rfl x0 x1 x2 x3 x4 x5 x6 x7
                    have HB8 := hide (wr8_below (p := p) (unhide B9) (by have := unhide HP; omega) x0 x1 x2 x3 x4 x5 x6 x7)
                    clear f0 f1 f2 f3 f4 f5 f6 f7 c0 c1 c2 c3 c4 c5 c6 c7 g0 g1 g2 g3 g4 g5 g6 g7
                    generalize wr8 w9 p x0 x1 x2 x3 x4 x5 x6 x7 = W8 at kz HB8 ⊢
                    have c0 : W8.cell? ⟨p, 0, none⟩ = some (.int .i64 x0) := kz.cell 0
                    have c1 : W8.cell? ⟨p, 1, none⟩ = some (.int .i64 x1) := kz.cell 1
                    have c2 : W8.cell? ⟨p, 2, none⟩ = some (.int .i64 x2) := kz.cell 2
                    have c3 : W8.cell? ⟨p, 3, none⟩ = some (.int .i64 x3) := kz.cell 3
                    have c4 : W8.cell? ⟨p, 4, none⟩ = some (.int .i64 x4) := kz.cell 4
                    have c5 : W8.cell? ⟨p, 5, none⟩ = some (.int .i64 x5) := kz.cell 5
                    have c6 : W8.cell? ⟨p, 6, none⟩ = some (.int .i64 x6) := kz.cell 6
                    have c7 : W8.cell? ⟨p, 7, none⟩ = some (.int .i64 x7) := kz.cell 7
                    refine bodyPost_ret (v := .tuple #[stpV [x0, x1, x2, x3, x4, x5, x6, x7], .int .i64 0]) (by simp [results, Tryd.results12, go_sem, stpV, c0, c1, c2, c3, c4, c5, c6, c7]) rfl ?_
                    exact ⟨_, _, rfl, Or.inl ⟨m, N, hm11, unhide HF, (unhide HXE).symm, by rw [← unhide HXE, unhide HSH, unhide HE], rfl⟩, rfl, unhide HB8⟩
                  · have hE : (X.toList == S.toList) = false := by rw [unhide HEQ]; simpa using he
                    have HE := hide he
                    clear he
                    go_wp2_with fail
                    go_roundw
                    case rel => exact ⟨m + 1, by go_num, by omega, hide (fun m' hm' => by
                      by_cases hmm : m' < m
                      · exact unhide HM m' hmm
                      · obtain rfl : m' = m := by omega
                        rw [unhide HSH]
                        exact fun h => unhide HE (Prod.mk.inj h).1), K79, KP9, B9⟩
                    case measure => simp [intOf]; omega
              · obtain rfl : m = 11 := by omega
                have kz := unhide HKP
                have f0 := kz.frozen 0
                have f1 := kz.frozen 1
                have f2 := kz.frozen 2
                have f3 := kz.frozen 3
                have f4 := kz.frozen 4
                have f5 := kz.frozen 5
                have f6 := kz.frozen 6
                have f7 := kz.frozen 7
                have c0 : wr.cell? ⟨p, 0, none⟩ = some (.int .i64 0) := kz.cell 0
                have c1 : wr.cell? ⟨p, 1, none⟩ = some (.int .i64 0) := kz.cell 1
                have c2 : wr.cell? ⟨p, 2, none⟩ = some (.int .i64 0) := kz.cell 2
                have c3 : wr.cell? ⟨p, 3, none⟩ = some (.int .i64 0) := kz.cell 3
                have c4 : wr.cell? ⟨p, 4, none⟩ = some (.int .i64 0) := kz.cell 4
                have c5 : wr.cell? ⟨p, 5, none⟩ = some (.int .i64 0) := kz.cell 5
                have c6 : wr.cell? ⟨p, 6, none⟩ = some (.int .i64 0) := kz.cell 6
                have c7 : wr.cell? ⟨p, 7, none⟩ = some (.int .i64 0) := kz.cell 7
                clear kz
                go_wp2_with fail
                change bodyPost _ _ _ _ _ (wr8 wr p 0 0 0 0 0 0 0 0)
                have kz := wr8_blk (unhide HKP) rfl 0 0 0 0 0 0 0 0
                have HB8 := hide (wr8_below (p := p) (unhide HB) (by have := unhide HP; omega) 0 0 0 0 0 0 0 0)
                clear f0 f1 f2 f3 f4 f5 f6 f7 c0 c1 c2 c3 c4 c5 c6 c7
                generalize wr8 wr p 0 0 0 0 0 0 0 0 = W8 at kz HB8 ⊢
                have c0 : W8.cell? ⟨p, 0, none⟩ = some (.int .i64 0) := kz.cell 0
                have c1 : W8.cell? ⟨p, 1, none⟩ = some (.int .i64 0) := kz.cell 1
                have c2 : W8.cell? ⟨p, 2, none⟩ = some (.int .i64 0) := kz.cell 2
                have c3 : W8.cell? ⟨p, 3, none⟩ = some (.int .i64 0) := kz.cell 3
                have c4 : W8.cell? ⟨p, 4, none⟩ = some (.int .i64 0) := kz.cell 4
                have c5 : W8.cell? ⟨p, 5, none⟩ = some (.int .i64 0) := kz.cell 5
                have c6 : W8.cell? ⟨p, 6, none⟩ = some (.int .i64 0) := kz.cell 6
                have c7 : W8.cell? ⟨p, 7, none⟩ = some (.int .i64 0) := kz.cell 7
                refine bodyPost_ret (v := .tuple #[stpV [0, 0, 0, 0, 0, 0, 0, 0], .int .i64 4]) (by simp [results, Tryd.results12, go_sem, stpV, c0, c1, c2, c3, c4, c5, c6, c7]) rfl ?_
                exact ⟨_, _, rfl, Or.inr ⟨rfl, rfl, Or.inr ⟨N, unhide HF, unhide HM⟩⟩, rfl, unhide HB8⟩
end Go.Proofs.YtcmkcgegdclllaaDoor
