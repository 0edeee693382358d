/- The reference's gossipTurn: telling. Conditions: none beyond what each theorem states. -/
import Derived.Test.YthmnfbnaeggknaaShvQ
namespace Go.Proofs.Ythmnfbnaeggknaa
open Go.RowKit
set_option linter.unusedVariables false

structure LabsAt (w : World) (base n : Nat) (A : Option Addr) (labs : List Nat) : Prop where
  rd : Reads w base 1 A n (labs.map fun v => Value.int .i64 ((v : Nat) : Int))
  ln : labs.length = n
  lb : ∀ v ∈ labs, v ≤ 255
def XY (X Y : List Nat) (k : Nat) : Prop := k ∈ X ∨ k ∈ Y
theorem XY.ge {w : World} {base sb hb ib n c m hc ic : Nat} {A : Option Addr} {X Y : List Nat} {Q : List (List Slot)} (h : ShvAt w base sb hb ib n c m hc ic A X Y Q) {k : Nat} (hk : XY X Y k) : base ≤ k ∧ k < w.heap.size ∧ ((∃ cs, Blk w k 84 cs) ∨ ∃ cs, Blk w k 83 cs) := by
  rcases hk with hk | hk
  · obtain ⟨j, hj⟩ := List.mem_iff_getElem?.1 hk
    obtain ⟨x, y, q, hx, hy, hq, _, _, ho⟩ := h.cs (j := j) (by rw [← h.xm]; exact (List.getElem?_eq_some_iff.1 hj).1)
    obtain rfl : x = k := by rw [hj] at hx; cases hx; rfl
    exact ⟨ho.lowx, ho.ents.lt, .inl ⟨_, ho.ents⟩⟩
  · obtain ⟨j, hj⟩ := List.mem_iff_getElem?.1 hk
    obtain ⟨x, y, q, hx, hy, hq, _, _, ho⟩ := h.cs (j := j) (by rw [← h.ym]; exact (List.getElem?_eq_some_iff.1 hj).1)
    obtain rfl : y = k := by rw [hj] at hy; cases hy; rfl
    exact ⟨ho.lowy, ho.bits.lt, .inr ⟨_, ho.bits⟩⟩
theorem LabsAt.only {w w' : World} {base n : Nat} {A : Option Addr} {labs : List Nat} {D : Nat → Prop} (h : LabsAt w base n A labs) (ho : Only D w w') (hB : base ≤ w.heap.size) (hD : ∀ k, D k → base ≤ k) : LabsAt w' base n A labs :=
  ⟨h.rd.only ho hB (fun x hx hd => by have := hD x hd; omega), h.ln, h.lb⟩
def RTurnPost (base sb hb ib n c m hc ic : Nat) (A : Option Addr) (X Y : List Nat) (w : World) (r : Int × List (List Slot)) (e : Ending) (w' : World) : Prop :=
  e = .returned (.int .i64 r.1) ∧ ShvAt w' base sb hb ib n c m hc ic A X Y r.2 ∧ Only (XY X Y) w w'
set_option maxRecDepth 100000 in
set_option maxHeartbeats 4000000 in
theorem refTurn_tell (base sb hb ib n c m hc ic : Nat) (A : Option Addr) (X Y : List Nat) (Q : List (List Slot)) (labs : List Nat) (w : World) (T : Int) (who dst : Nat) (label key value : Int) (h : ShvAt w base sb hb ib n c m hc ic A X Y Q) (hla : LabsAt w base n A labs) (hG : Goods T m n Q) (hT : T ≤ 1000000) (hw : who < m) (hd : dst < m) (hm8 : m ≤ 8) :
    Calls Try.prog 36 #[.pointer (some ⟨sb, 0, none⟩), .int .i64 m, .agg (turnC ⟨3, who, dst, label, key, value⟩)] w (RTurnPost base sb hb ib n c m hc ic A X Y w (0, tellQ who dst labs 0 Q)) := by
  obtain ⟨w1, hw1⟩ : ∃ w1, w1 = w.alloc (.cells #[.int .i64 3, .int .i64 who, .int .i64 dst, .int .i64 label, .int .i64 key, .int .i64 value] 60) := ⟨_, rfl⟩
  have hb1 : Below w.heap.size w w1 := by rw [hw1]; exact (Below.refl _ _).alloc (Nat.le_refl _) _
  obtain ⟨p, hp⟩ : ∃ p, p = w.heap.size := ⟨_, rfl⟩
  have kt : Blk w1 p 60 #[.int .i64 3, .int .i64 who, .int .i64 dst, .int .i64 label, .int .i64 key, .int .i64 value] := by rw [hw1, hp]; exact Blk.new w 60 _
  have h1 := h.calm hb1
  have hn8 := h1.n8
  have hbase : base ≤ w1.heap.size := Nat.le_trans h1.low.1 (Nat.le_of_lt h1.shelves.lt)
  have hla1 : LabsAt w1 base n A labs := ⟨hla.rd.below (hb1.mono (Nat.le_trans h.low.1 (Nat.le_of_lt h.shelves.lt))), hla.ln, hla.lb⟩
  have hpn : ¬ XY X Y p := fun hk => by have := (XY.ge h hk).2.1; omega
  have hsn : ¬ XY X Y sb := fun hk => by
    rcases (XY.ge h hk).2.2 with ⟨cs, hc⟩ | ⟨cs, hc⟩
    · exact h.shelves.ne_ hc (by decide) rfl
    · exact h.shelves.ne_ hc (by decide) rfl
  have ft := fun (W : World) (hz : Only (XY X Y) w1 W) => kt.only hz hpn
  have t1 := fun (W : World) (hz : Only (XY X Y) w1 W) => (ft W hz).cell 1
  have t2 := fun (W : World) (hz : Only (XY X Y) w1 W) => (ft W hz).cell 2
  have t0 := fun (W : World) (hz : Only (XY X Y) w1 W) => (ft W hz).cell 0
  have fs := fun (W : World) (hz : Only (XY X Y) w1 W) => (h1.shelves.only hz hsn).cell 0
  simp only [List.getElem?_toArray, List.getElem?_cons_zero, List.getElem?_cons_succ] at t0 t1 t2 fs
  have hz0 : Only (XY X Y) w1 w1 := Only.refl _ _
  have HKT := hide kt
  have HB1 := hide hb1
  have HW1 := hide hw1
  have HP := hide hp
  have H1 := hide h1
  have HG := hide hG
  have HLA := hide hla1
  have hw' : (who : Int) < (m : Int) := by omega
  have hd' : (dst : Int) < (m : Int) := by omega
  have dw0 : decide ((who : Int) < 0) = false := by simp
  have dd0 : decide ((dst : Int) < 0) = false := by simp
  have dw1 : decide (m ≤ who) = false := by simpa using hw
  have dd1 : decide (m ≤ dst) = false := by simpa using hd
  clear h kt h1 hb1 hw1 hp hG hla hla1 ft
  unfold turnC
  dsimp only
  go_enter Try.func36, Try.ntmps36
  go_upto_region 1 with fail
  rw [← unhide HW1, ← unhide HP]
  go_wp2_with fail
  go_loopw [45] (fun j wr => ∃ (k : Nat) (Q' : List (List Slot)), k ≤ n ∧ j = .int .i64 k ∧ Hid (ShvAt wr base sb hb ib n c m hc ic A X Y Q') ∧ Hid (Goods T m n Q') ∧ Hid (tellQ who dst (labs.drop k) k Q' = tellQ who dst labs 0 Q) ∧ Only (XY X Y) w1 wr) (fun j _ => n - (intOf j).toNat)
  case atStart => exact ⟨0, Q, Nat.zero_le _, rfl, H1, HG, rfl, Only.refl _ _⟩
  case round =>
    obtain ⟨k, Q', hk, rfl, HR, HGR, HT, hz⟩ := hrel
    by_cases hlt : k < n
    · have hlr := (unhide HLA).only hz hbase (fun x hx => (XY.ge (unhide H1) hx).1)
      obtain ⟨bx, o, z, rfl, hzz, hcz⟩ := int_at hlr.rd hlt
      have hz255 := hlr.lb z (List.mem_of_getElem? hzz)
      have HT2 := hide (show tellQ who dst (labs.drop (k + 1)) (k + 1) (if z.testBit who && z.testBit dst then Q'.set dst (learnL (Q'[dst]?.getD []) k (lsS (rowQ (Q'[who]?.getD []) k))) else Q') = tellQ who dst labs 0 Q by have h := unhide HT; rw [drop_cons labs k z hzz] at h; exact h)
      have HI1 := hide (refReads_any z who wr hz255 (by omega))
      have HI2 := hide (refReads_any z dst wr hz255 (by omega))
      have hkn : (k : Int) < (n : Int) := by omega
      clear HT hzz hlr
      cases hb1 : z.testBit who
      · rw [hb1] at HI1 HT2
        clear hb1
        go_wp2_with fail
        refine (unhide HI1).mono ?_
        rintro _ _ ⟨rfl, rfl⟩
        go_wp2_with fail
        go_roundw
        case rel => exact ⟨k + 1, Q', by omega, by go_num, HR, HGR, by simpa using HT2, hz⟩
        case measure => simp [intOf]; omega
      · rw [hb1] at HI1 HT2
        clear hb1
        cases hb2 : z.testBit dst
        · rw [hb2] at HI2 HT2
          clear hb2
          go_wp2_with fail
          refine (unhide HI1).mono ?_
          rintro _ _ ⟨rfl, rfl⟩
          go_wp2_with fail
          refine (unhide HI2).mono ?_
          rintro _ _ ⟨rfl, rfl⟩
          go_wp2_with fail
          go_roundw
          case rel => exact ⟨k + 1, Q', by omega, by go_num, HR, HGR, by simpa using HT2, hz⟩
          case measure => simp [intOf]; omega
        · rw [hb2] at HI2 HT2
          clear hb2
          go_wp2_with fail
          refine (unhide HI1).mono ?_
          rintro _ _ ⟨rfl, rfl⟩
          go_wp2_with fail
          refine (unhide HI2).mono ?_
          rintro _ _ ⟨rfl, rfl⟩
          obtain ⟨x, y, qd, ex, ey, ed, _, _, hoD⟩ := (unhide HR).cs hd
          obtain ⟨_, _, qw, _, _, ew, _, _, _⟩ := (unhide HR).cs hw
          have hgw := (unhide HGR).each qw (List.mem_of_getElem? ew)
          have hgd := (unhide HGR).each qd (List.mem_of_getElem? ed)
          have hK := hgw.2.row k
          have h8 := rowQ_len qw k n hgw.1 hlt
          have HLI := hide (shvList_any base sb hb ib n c m hc ic _ X Y Q' wr who k qw (unhide HR) hw hlt ew)
          rw [ed, ew] at HT2
          simp only [Option.getD_some, Bool.and_self, if_true] at HT2
          have hll := lsS_len (rowQ qw k)
          rw [h8] at hll
          obtain ⟨L, hL⟩ : ∃ L, L = lsS (rowQ qw k) := ⟨_, rfl⟩
          have hLm : ∀ e ∈ L, (0 ≤ e.key ∧ e.key < 8) ∧ EntOk T e := fun e he => by rw [hL] at he; have := lsS_mem hK he; exact ⟨by omega, this.2⟩
          have hLY : mayP L = true := by rw [hL]; exact may_ls hK (by omega) (by omega)
          rw [← hL] at HLI HT2 hll
          have HLR := hide (learn_row (unhide HGR) (by omega) ed hlt hLY (fun e he => ⟨(hLm e he).1.2, (hLm e he).2⟩)).1
          have HLM := hide hLm
          have HEX := hide ex
          have HEY := hide ey
          have HED := hide ed
          have HXD : ¬ XY X Y wr.heap.size := fun hk => by have := (XY.ge (unhide HR) hk).2.1; omega
          have HOD := hide hoD
          clear ex ey ed ew hgw hgd hK h8 hL hLm hLY hoD
          obtain ⟨q0, hq0⟩ : ∃ q0, q0 = L.length := ⟨_, rfl⟩
          have hq8 : q0 ≤ 8 := by omega
          rw [← hq0] at HLI hll
          have HQ0 := hide hq0.symm
          clear hq0 hll
          go_wp2_with fail
          refine (unhide HLI).mono ?_
          rintro _ w2 ⟨v, rfl, hown, hb2⟩
          obtain ⟨LA, Lc, rfl, hLc⟩ := own_slice hown
          have hz2 : Only (XY X Y) w1 w2 := hz.calm hb2
          have HR2 := hide ((unhide HR).calm hb2)
          have HOW := hide hown
          have HB2 := hide hb2
          have hlt2 : ∀ k, XY X Y k → k < wr.heap.size := fun k hk => (XY.ge (unhide HR) hk).2.1
          clear hown hb2
          go_wp2_with fail
          go_loopw [66] (fun j W => ∃ (i : Nat), i ≤ q0 ∧ j = .int .i64 i ∧ Hid (ShvAt W base sb hb ib n c m hc ic _ X Y (Q'.set dst (learnL qd k (L.take i)))) ∧ Hid (Only (fun k => k = x ∨ k = y) w2 W) ∧ Only (XY X Y) w1 W) (fun j _ => q0 - (intOf j).toNat)
          case atStart => exact ⟨0, Nat.zero_le _, rfl, by rw [List.take_zero, show learnL qd k [] = qd from rfl, list_same Q' dst qd (unhide HED)]; exact HR2, hide (Only.refl _ _), hz2⟩
          case round =>
            obtain ⟨i, hi, rfl, HRi, HOi, hzi⟩ := hrel
            by_cases hi2 : i < q0
            · have hxD : XY X Y x := .inl (List.mem_of_getElem? (unhide HEX))
              have hyD : XY X Y y := .inr (List.mem_of_getElem? (unhide HEY))
              have hrow := Reads.of_own (own_only (unhide HOW) (unhide HOi) (fun g hg hD => by
                have h1 := ((unhide HOW).lt g hg).1
                rcases hD with h2 | h2
                · have := hlt2 x hxD; omega
                · have := hlt2 y hyD; omega))
              obtain ⟨bl, ol, e, rfl, _, hle, hce⟩ := at_row entCells_len (by omega) hrow hi2 (unhide HQ0)
              have z0 : wr.cell? ⟨bl, ol + i * 5, none⟩ = some (.int .i64 e.key) := hce 0 _ rfl
              have z1 : wr.cell? ⟨bl, ol + i * 5 + 1, none⟩ = some (.int .i64 e.value) := hce 1 _ rfl
              have z2 : wr.cell? ⟨bl, ol + i * 5 + 2, none⟩ = some (.int .i64 e.time) := hce 2 _ rfl
              have z3 : wr.cell? ⟨bl, ol + i * 5 + 3, none⟩ = some (.int .i64 e.who) := hce 3 _ rfl
              have z4 : wr.cell? ⟨bl, ol + i * 5 + 4, none⟩ = some (.bool e.gone) := hce 4 _ rfl
              have hek := unhide HLM e (List.mem_of_getElem? hle)
              obtain ⟨w3, hw3⟩ : ∃ w3, w3 = wr.alloc (.cells #[.int .i64 e.key, .int .i64 e.value, .int .i64 e.time, .int .i64 e.who, .bool e.gone] 25) := ⟨_, rfl⟩
              have hb3 : Below wr.heap.size wr w3 := by rw [hw3]; exact (Below.refl _ _).alloc (Nat.le_refl _) _
              have hR3 := (unhide HRi).calm hb3
              have hqi : (Q'.set dst (learnL qd k (L.take i)))[dst]? = some (learnL qd k (L.take i)) := List.getElem?_set_self (List.getElem?_eq_some_iff.1 (unhide HED)).1
              have HLE := hide (shvLearn_any base sb hb ib n c m hc ic _ X Y _ w3 dst k x y e _ hR3 hd hlt hek.1 (unhide HEX) (unhide HEY) hqi)
              have HTK := hide (show learnS (learnL qd k (L.take i)) k e = learnL qd k (L.take (i + 1)) by rw [take_snoc L i e hle]; unfold learnL; rw [List.foldl_append]; rfl)
              have HW3 := hide hw3
              have k3 : Blk w3 wr.heap.size 25 #[.int .i64 e.key, .int .i64 e.value, .int .i64 e.time, .int .i64 e.who, .bool e.gone] := by rw [hw3]; exact Blk.new wr 25 _
              have k30 : w3.cell? ⟨wr.heap.size, 0, none⟩ = some (.int .i64 e.key) := k3.cell 0
              have k31 : w3.cell? ⟨wr.heap.size, 1, none⟩ = some (.int .i64 e.value) := k3.cell 1
              have k32 : w3.cell? ⟨wr.heap.size, 2, none⟩ = some (.int .i64 e.time) := k3.cell 2
              have k33 : w3.cell? ⟨wr.heap.size, 3, none⟩ = some (.int .i64 e.who) := k3.cell 3
              have k34 : w3.cell? ⟨wr.heap.size, 4, none⟩ = some (.bool e.gone) := k3.cell 4
              have hz3 : Only (XY X Y) w1 w3 := hzi.calm hb3
              have HO3 := hide ((unhide HOi).calm hb3)
              have hi2' : (i : Int) < (q0 : Int) := by omega
              obtain ⟨e0, e1, e2, e3, e4⟩ := e
              dsimp only at z0 z1 z2 z3 z4 hw3 HW3 k30 k31 k32 k33 k34
              have HHX := hide hxD
              have HHY := hide hyD
              unfold entV at HLE
              dsimp only at HLE
              clear hle hce hek hb3 hR3 hqi hw3 hrow hxD hyD k3
              go_upto_region 15 with fail
              rw [← unhide HW3]
              go_wp2_with fail
              refine (unhide HLE).mono ?_
              rintro _ w4 ⟨rfl, hs4, ho4⟩
              rw [List.set_set, unhide HTK] at hs4
              have HS4 := hide hs4
              have HO4 := hide ((unhide HO3).trans ho4 (fun _ _ h => h))
              have hz4 : Only (XY X Y) w1 w4 := hz3.trans ho4 (fun g _ h => by rcases h with h | h; exact h ▸ unhide HHX; exact h ▸ unhide HHY)
              clear hs4 ho4
              go_wp2_with fail
              go_roundw
              case rel => exact ⟨i + 1, by omega, by go_num, HS4, HO4, hz4⟩
              case measure => simp [intOf]; omega
            · obtain rfl : i = q0 := by omega
              rw [List.take_of_length_le (by rw [unhide HQ0]; exact Nat.le_refl _)] at HRi
              go_wp2_with fail
              go_roundw
              case rel => exact ⟨k + 1, _, by omega, by go_num, HRi, HLR, HT2, hzi⟩
              case measure => simp [intOf]; omega
    · obtain rfl : k = n := by omega
      go_wp2_with fail
      go_ret
      refine ⟨rfl, ?_, (Only.of_below (unhide HB1) (fun x h1 h2 => by omega)).trans hz (fun _ _ h => h)⟩
      have h := unhide HT
      rw [List.drop_of_length_le (by rw [(unhide HLA).ln]; exact Nat.le_refl _)] at h
      rw [← h]
      exact unhide HR
end Go.Proofs.Ythmnfbnaeggknaa
