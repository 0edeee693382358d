/- The contract of wire.Pack over whatever fields. Conditions: none beyond what each theorem states. -/
import Derived.Test.YtbkciniikahjhaaWireB
namespace Go.Proofs.Ytbkciniikahjhaa
open Go.RowKit
set_option linter.unusedVariables false

def Packed (W : World) (v : Value) (w : World) (bs : List Int) : Prop := w.ownsRow W.heap.size 5 1 v bs.length (bs.map (.int .u8)) ∧ Below W.heap.size W w
def PackPost (fs : List (Int × Int)) (W : World) (e : Ending) (w : World) : Prop := ∃ v, e = .returned (.tuple #[v, .int .i64 (packP fs).2]) ∧ Packed W v w (packP fs).1

set_option maxHeartbeats 800000 in
set_option maxRecDepth 100000 in
theorem wirePack_any (A : Option Addr) (n c : Nat) (fs : List (Int × Int)) (w : World) (hl : fs.length = n) (hm : n * 16 ≤ 140737488351232) (hr : Reads w w.heap.size 2 A n (fs.flatMap fldCells)) :
    Calls Try.prog 30 #[.slice A n c] w (PackPost fs w) := by
  obtain ⟨i0, hi, hz0, hz1, hz2⟩ := info_parts info_int
  have HR := hide hr
  clear hr
  have HL := hide hl
  clear hl
  go_enter Try.func30, Try.ntmps30
  go_wp2_with fail
  go_loopw [4, 15] (fun v i wr => ∃ (k : Nat), k ≤ n ∧ i = .int .i64 k ∧ wr.ownsRow w.heap.size 3 1 v k (wcells fs k) ∧ Below w.heap.size w wr) (fun _ i _ => n - (intOf i).toNat)
  case atStart => exact ⟨0, Nat.zero_le _, rfl, World.ownsRow_nil _ _ _ _, Below.refl _ _⟩
  case round =>
    obtain ⟨k, hk, rfl, hown, hb⟩ := hrel
    by_cases hlt : k < n
    · obtain ⟨b, o, f, rfl, hab, hf, hc⟩ := at_row fldCells_len (by omega) ((unhide HR).below hb) hlt (unhide HL)
      have c0 : wr.cell? ⟨b, o + k * 2, none⟩ = some (.int .i64 f.1) := hc 0 _ rfl
      have c1 : wr.cell? ⟨b, o + k * 2 + 1, none⟩ = some (.int .i64 f.2) := hc 1 _ rfl
      have HF := hide hf
      clear hc hf
      have hsz := hb.size
      go_wp2_with (first
        | (at_builtin; (refine wpList_append_new _ rfl (.tmp 19) (.tmp 22) _ rfl w.heap.size 3 i0 _ 1 8 Try.underlying22 hi hz0 hz1 hz2 rfl (by omega) (by omega) _ _ _ (hown.alloc _) rfl _ 1 _ rfl (by simp) rfl (by simp [Value.oneCell']) (by omega) (by omega) ?_); intro g cap w1 hg hown1 hbel1 _ _))
      go_roundw
      case rel => exact ⟨k + 1, by omega, by go_num, by rw [wcells_succ fs k f (unhide HF)]; exact hown1, hbel1 _ _ (Nat.le_refl _) (hb.alloc hsz _)⟩
      case measure => simp [intOf]; omega
    · obtain rfl : k = n := by omega
      obtain ⟨Aw, cw, rfl, hcw⟩ := own_slice hown
      have hrw : Reads wr wr.heap.size 1 Aw k ((fs.map (·.1)).map (Value.int .i64)) := by
        rw [← wcells_all fs, unhide HL]
        exact Reads.of_own hown
      have HC := hide (wireSize_any Aw k cw (fs.map (·.1)) _ wr (by rw [List.length_map]; exact unhide HL) (by omega) hrw)
      clear hrw
      have HW := hide (And.intro hown hb)
      have hsz := hb.size
      clear hown hb
      rcases sizeP_cases (fs.map (·.1)) with hs | hs | ⟨N, hs, h40, hw60, hN⟩
      · have HC2 := hide (by have h := unhide HC; rw [hs] at h; exact h)
        have HP := hide (show packP fs = ([], 1) by unfold packP; rw [hs]; rfl)
        clear HC hs
        go_wp2_with fail
        refine (unhide HC2).mono ?_
        rintro e w' ⟨rfl, rfl⟩
        go_wp2_with fail
        go_ret2
        exact ⟨_, by rw [unhide HP]; rfl, by rw [unhide HP]; exact ⟨World.ownsRow_nil _ _ _ _, (unhide HW).2⟩⟩
      · have HC2 := hide (by have h := unhide HC; rw [hs] at h; exact h)
        have HP := hide (show packP fs = ([], 2) by unfold packP; rw [hs]; rfl)
        clear HC hs
        go_wp2_with fail
        refine (unhide HC2).mono ?_
        rintro e w' ⟨rfl, rfl⟩
        go_wp2_with fail
        go_ret2
        exact ⟨_, by rw [unhide HP]; rfl, by rw [unhide HP]; exact ⟨World.ownsRow_nil _ _ _ _, (unhide HW).2⟩⟩
      · have HC2 := hide (by have h := unhide HC; rw [hs] at h; exact h)
        have HP := hide (show packP fs = if fs.all fitsF then (bytesOf (allBits fs) N, 0) else ([], 12) by unfold packP; rw [hs]; simp)
        rw [← allBits_len] at hN
        have hN2 : 8 * N ≤ (allBits fs).length + 7 := by omega
        have hN3 : (allBits fs).length ≤ 8 * N := by omega
        have hk40 : k ≤ 40 := by rw [List.length_map, unhide HL] at h40; exact h40
        have hN4 : N ≤ 300 := by
          have := sum_le (fs.map (·.1)) hw60
          rw [← allBits_len] at this
          omega
        have HW60 := hide hw60
        clear HC hs hN h40 hw60
        obtain ⟨i8, hi8, hz80, hz81, hz82⟩ := info_parts info_u8
        have hmk := fun W => run_make_rowN (P := Try.prog) 26 5 i8 _ Try.underlying26 hi8 hz80 .i64 .i64 N N (Nat.le_refl _) (by rw [hz82]; omega) (by omega) W
        rw [hz81] at hmk
        go_wp2_with fail
        refine (unhide HC2).mono ?_
        rintro e w' ⟨rfl, rfl⟩
        go_wp2_with fail
        obtain ⟨wo, rfl⟩ : ∃ wo : World, wo = wr := ⟨_, rfl⟩
        go_loopw [39] (fun i wx => ∃ (j : Nat), j ≤ k ∧ i = .int .i64 j ∧ PackAt w wx (wo.heap.size + 1) wo.heap.size N (allBits (fs.take j)) ∧ Hid ((fs.take j).all fitsF = true)) (fun i _ => k - (intOf i).toNat)
        case atStart =>
          refine ⟨0, Nat.zero_le _, rfl, ⟨?_, hsz, rfl, ?_, ?_⟩, rfl⟩
          · exact (((unhide HW).2.alloc hsz _).alloc (by simp; omega) _)
          · have := Blk.new (wo.alloc (.cells (madeCells #[.int .u8 0] N) 5)) 91 #[.slice (some ⟨wo.heap.size, 0, none⟩) N N, .int .i64 0]
            simpa [allBits] using this
          · have := (Blk.new wo 5 (madeCells #[.int .u8 0] N)).alloc (.cells #[.slice (some ⟨wo.heap.size, 0, none⟩) N N, .int .i64 0] 91)
            have e : ((bytesOf (allBits (fs.take 0)) N).map (Value.int .u8)).toArray = madeCells #[.int .u8 0] N := by
              rw [← Array.toList_inj, toList_madeCells_one]
              simp [allBits, bytesOf_nil]
            rw [e]
            exact this
        case round =>
          obtain ⟨j, hj, rfl, HA, HO⟩ := hrel
          have HA' := hide HA
          by_cases hlt2 : j < k
          · obtain ⟨b, o, f, rfl, hab, hf, hc⟩ := at_row fldCells_len (by omega) ((unhide HR).below HA.1) hlt2 (unhide HL)
            obtain ⟨wd, v⟩ := f
            have hwd := unhide HW60 wd (List.mem_map.2 ⟨_, List.mem_of_getElem? hf, rfl⟩)
            obtain ⟨wd, rfl⟩ := Int.eq_ofNat_of_zero_le (show 0 ≤ wd by omega)
            have hwd1 : 1 ≤ wd := by omega
            have hwd2 : wd ≤ 60 := by omega
            have c0 : wr.cell? ⟨b, o + j * 2, none⟩ = some (.int .i64 wd) := hc 0 _ rfl
            have c1 : wr.cell? ⟨b, o + j * 2 + 1, none⟩ = some (.int .i64 v) := hc 1 _ rfl
            have HF := hide hf
            have hlenj := allBits_take_le fs (j + 1)
            rw [allBits_snoc fs j _ hf, List.length_append, fieldBits_len] at hlenj
            simp only [Int.toNat_natCast] at hlenj
            have HLJ := hide hlenj
            have hszx := HA.1.size
            clear hc hf hwd HA hlenj
            have HNO : fitsF ((wd : Int), v) = false → Hid (packP fs = ([], 12)) := by
              intro hno
              have : fs.all fitsF = false := by
                rw [List.all_eq_false]
                exact ⟨_, List.mem_of_getElem? (unhide HF), by rw [hno]; simp⟩
              exact hide (by rw [unhide HP, this]; rfl)
            by_cases hv0 : v < 0
            · have HQ := HNO (by simp [fitsF]; omega)
              clear HNO
              go_wp2_with fail
              go_ret2
              exact ⟨_, by rw [unhide HQ]; rfl, by rw [unhide HQ]; exact ⟨World.ownsRow_nil _ _ _ _, (unhide HA').1.alloc hszx _⟩⟩
            · obtain ⟨v, rfl⟩ := Int.eq_ofNat_of_zero_le (show 0 ≤ v by omega)
              clear hv0
              by_cases hfit : v < 2 ^ wd
              · have hdiv : (v : Int) / 2 ^ wd = 0 := by
                  have : ((v / 2 ^ wd : Nat) : Int) = 0 := by rw [Nat.div_eq_of_lt hfit]; rfl
                  simpa using this
                clear HNO
                have HFIT := hide hfit
                clear hfit
                go_wp2_with fail
                obtain ⟨wz, rfl⟩ : ∃ wz : World, wz = wr := ⟨_, rfl⟩
                have hv9 : v ≤ 9223372036854775807 := by have := two_pow_60 hwd2; have := unhide HFIT; omega
                have hF : wo.heap.size + 1 < wz.heap.size := (unhide HA').2.2.2.1.lt
                go_loopw [12] (fun q wy => ∃ (t : Nat), t ≤ wd ∧ q = .int .i64 ((wd : Int) - 1 - (t : Int)) ∧ PackAt w wy (wo.heap.size + 1) wo.heap.size N (allBits (fs.take j) ++ (fieldBits ((wd : Int), (v : Int))).take t) ∧
                    Blk wy wz.heap.size 53 #[.int .i64 wd, .int .i64 v]) (fun q _ => (intOf q + 1).toNat)
                case atStart => exact ⟨0, Nat.zero_le _, by simp, by simpa using (unhide HA').alloc _, Blk.new wz _ _⟩
                case round =>
                  obtain ⟨t, ht, rfl, HPA, HB⟩ := hrel
                  by_cases htl : t < wd
                  · have hbl : (allBits (fs.take j) ++ (fieldBits ((wd : Int), (v : Int))).take t).length = (allBits (fs.take j)).length + t := by
                      rw [List.length_append, List.length_take, fieldBits_len]; simp; omega
                    have hle : ∀ b ∈ allBits (fs.take j) ++ (fieldBits ((wd : Int), (v : Int))).take t, b ≤ 1 := by
                      intro b hb
                      rcases List.mem_append.1 hb with hb | hb
                      · exact allBits_le _ b hb
                      · exact fieldBits_le _ b (List.mem_of_mem_take hb)
                    have HPUT := hide (stripPut_at w wr (wo.heap.size + 1) wo.heap.size N (v / 2 ^ (wd - 1 - t) % 2) _ HPA (by have := unhide HLJ; omega) (by have := unhide HLJ; omega) (by omega) hle)
                    rw [List.append_assoc, ← fieldBits_take wd v t htl] at HPUT
                    have b0 : wr.cell? ⟨wz.heap.size, 1, none⟩ = some (.int .i64 v) := by rw [HB.cell]; rfl
                    have hbit := shr_and1 v (wd - 1 - t) hv9
                    have HBH := hide HB
                    clear hbl hle HPA HB
                    go_wp2_with fail
                    refine (unhide HPUT).mono ?_
                    rintro e w1 ⟨rfl, HP1, HB2⟩
                    have HBN := hide (HB2.blk (unhide HBH) (by omega) (by omega))
                    have HPN := hide HP1
                    clear HP1 HB2
                    go_wp2_with fail
                    go_roundw
                    case rel => exact ⟨t + 1, by omega, by go_num, unhide HPN, unhide HBN⟩
                    case measure => simp [intOf]; omega
                  · obtain rfl : t = wd := by omega
                    have HPN := hide HPA
                    clear HPA HB
                    go_wp2_with fail
                    go_roundw
                    case rel =>
                      refine ⟨j + 1, by omega, by go_num, ?_, ?_⟩
                      · have h := unhide HPN
                        have htk : (fieldBits ((t : Int), (v : Int))).take t = fieldBits ((t : Int), (v : Int)) := List.take_of_length_le (by rw [fieldBits_len]; simp)
                        rw [htk, ← allBits_snoc fs j _ (unhide HF)] at h
                        exact h
                      · show (fs.take (j + 1)).all fitsF = true
                        rw [take_snoc fs j _ (unhide HF), List.all_append, unhide HO]
                        have := unhide HFIT
                        simp only [List.all_cons, List.all_nil, Bool.and_true, Bool.true_and, fitsF, Int.toNat_natCast, decide_eq_true_eq]
                        exact ⟨by omega, by exact_mod_cast this⟩
                    case measure => simp [intOf]; omega
              · have HQ := HNO (by simp only [fitsF, Int.toNat_natCast, decide_eq_false_iff_not]; intro h; exact hfit (by have := h.2; exact_mod_cast this))
                have hdiv : (0 : Int) < (v : Int) / 2 ^ wd := by
                  have h1 : 0 < v / 2 ^ wd := Nat.div_pos (by omega) (Nat.pow_pos (by omega))
                  have : (0 : Int) < ((v / 2 ^ wd : Nat) : Int) := by omega
                  simpa using this
                clear HNO hfit
                go_wp2_with fail
                go_ret2
                exact ⟨_, by rw [unhide HQ]; rfl, by rw [unhide HQ]; exact ⟨World.ownsRow_nil _ _ _ _, (unhide HA').1.alloc hszx _⟩⟩
          · obtain rfl : j = k := by omega
            have hall : fs.take j = fs := List.take_of_length_le (by rw [unhide HL]; exact Nat.le_refl _)
            have HQ := hide (show packP fs = (bytesOf (allBits fs) N, 0) by rw [unhide HP]; have h := unhide HO; rw [hall] at h; rw [h]; rfl)
            rw [hall] at HA HA'
            clear hall
            have d0 : wr.cell? ⟨wo.heap.size + 1, 0, none⟩ = some (.slice (some ⟨wo.heap.size, 0, none⟩) N N) := by rw [HA.2.2.2.1.cell]; rfl
            clear HA
            go_wp2_with fail
            go_ret2
            refine ⟨_, by rw [unhide HQ]; rfl, ?_⟩
            rw [unhide HQ]
            obtain ⟨g1, g2, _, g4, g5⟩ := unhide HA'
            refine ⟨⟨by simp [bytesOf], .inr ⟨wo.heap.size, N, _, by simp [bytesOf], g2, g5, by simp [bytesOf], by unfold maxLen; omega, by simp [bytesOf], by simp only [bytesOf, List.length_map, List.length_range, Nat.mul_one]; exact List.take_of_length_le (by simp)⟩⟩, g1⟩
end Go.Proofs.Ytbkciniikahjhaa
