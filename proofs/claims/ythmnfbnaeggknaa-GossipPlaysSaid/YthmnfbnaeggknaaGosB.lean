/- gossip.Store: Put, Find. Conditions: none beyond what each theorem states. -/
import Derived.Test.YthmnfbnaeggknaaGosA
namespace Go.Proofs.Ythmnfbnaeggknaa
open Go.RowKit
set_option linter.unusedVariables false

def putE (l : List Ent) (who key value : Int) (gone : Bool) : List Ent := (mergeP l [⟨key, value, timeL l 0 + 1, who, gone⟩]).1
set_option maxRecDepth 100000 in
set_option maxHeartbeats 1000000 in
theorem storePut_any (base g m : Nat) (S : List EnR) (w : World) (i : Nat) (x : EnR) (who key value : Int) (gone : Bool) (h : StoreAt w base g S) (hm : S.length = m) (hx : S[i]? = some x) (ht : ∀ e ∈ x.es, 0 ≤ e.time ∧ e.time ≤ 2000000) (hb0 : base ≤ w.heap.size) (hm8 : m ≤ 1000) :
    Calls Try.prog 47 #[.slice (some ⟨g, 0, none⟩) m m, .int .i64 i, .int .i64 who, .int .i64 key, .int .i64 value, .bool gone] w (LearnPost w base g S i (putE x.es who key value gone)) := by
  have HNX := hide (storeNext_any base g m S w i x h hm hx ht hm8)
  have HX := hide h
  have HM := hide hm
  have HXX := hide hx
  have HF := hide (show putE x.es who key value gone = (mergeP x.es [⟨key, value, timeL x.es 0 + 1, who, gone⟩]).1 from rfl)
  obtain ⟨t, ht2⟩ : ∃ t, t = timeL x.es 0 + 1 := ⟨_, rfl⟩
  rw [← ht2] at HNX HF
  clear h hm hx ht ht2
  go_enter Try.func47, Try.ntmps47
  go_wp2_with fail
  refine (unhide HNX).mono ?_
  rintro _ w1 ⟨rfl, hb1⟩
  obtain ⟨w2, hw2⟩ : ∃ w2, w2 = (w1.alloc (.cells #[.int .i64 key, .int .i64 value, .int .i64 t, .int .i64 who, .bool gone] 25)).alloc (.cells #[.int .i64 key, .int .i64 value, .int .i64 t, .int .i64 who, .bool gone] 25) := ⟨_, rfl⟩
  have hb2 : Below w1.heap.size w1 w2 := by rw [hw2]; exact ((Below.refl _ _).alloc (Nat.le_refl _) _).alloc (by simp) _
  have k2 : Blk w2 (w1.heap.size + 1) 25 (entCells ⟨key, value, t, who, gone⟩).toArray := by
    have h := Blk.new (w1.alloc (.cells #[.int .i64 key, .int .i64 value, .int .i64 t, .int .i64 who, .bool gone] 25)) 25 (entCells ⟨key, value, t, who, gone⟩).toArray
    rw [hw2]
    simpa [entCells] using h
  have HB2 := hide (hb1.trans (hb2.mono hb1.size))
  have HX2 := (unhide HX).calm (unhide HB2)
  have HLE := hide (storeLearn_any base g m S w2 i x (some ⟨w1.heap.size + 1, 0, none⟩) 1 1 [⟨key, value, t, who, gone⟩] w2.heap.size HX2 (unhide HM) (unhide HXX) rfl (by omega) (by simpa using blk_reads k2 5 rfl) (Nat.le_refl _) (Nat.le_trans hb0 (unhide HB2).size) hm8)
  have HW2 := hide hw2
  clear hb1 hw2 hb2 k2 HX2
  go_wp2_with fail
  rw [← unhide HW2]
  refine (unhide HLE).mono ?_
  rintro _ w3 ⟨rfl, r, hre, hst, hon, hlw⟩
  go_wp2_with fail
  go_end0
  rw [unhide HF]
  have hs := (unhide HB2).size
  exact ⟨rfl, r, hre, hst, (Only.of_below (unhide HB2) (fun x h1 h2 => by omega)).trans hon (fun _ _ h => h), fun k hk => by have := hlw k hk; omega⟩

theorem arr5 (cs : Array Value) (hs : cs.size = 5) (b0 b1 b2 b3 b4 : Value) : ((((cs.setIfInBounds 0 b0).setIfInBounds 1 b1).setIfInBounds 2 b2).setIfInBounds 3 b3).setIfInBounds 4 b4 = #[b0, b1, b2, b3, b4] := by
  obtain ⟨l⟩ := cs
  match l, hs with
  | [x0, x1, x2, x3, x4], _ => rfl
def ent5 (w : World) (b : Nat) (b0 b1 b2 b3 b4 : Value) : World := ((((w.setCell ⟨b, 0, none⟩ b0).setCell ⟨b, 1, none⟩ b1).setCell ⟨b, 2, none⟩ b2).setCell ⟨b, 3, none⟩ b3).setCell ⟨b, 4, none⟩ b4
theorem blk_ent {w : World} {b : Nat} {cs : Array Value} (h : Blk w b 25 cs) (hs : cs.size = 5) (b0 b1 b2 b3 b4 : Value) :
    Blk (ent5 w b b0 b1 b2 b3 b4) b 25 #[b0, b1, b2, b3, b4] := by
  rw [← arr5 cs hs b0 b1 b2 b3 b4]
  exact ((((h.set_ 0 b0).set_ 1 b1).set_ 2 b2).set_ 3 b3).set_ 4 b4
theorem only_ent (w : World) (b : Nat) (b0 b1 b2 b3 b4 : Value) : Only (fun k => k = b) w (ent5 w b b0 b1 b2 b3 b4) :=
  only_put (only_put (only_put (only_put (only_put (Only.refl _ _) _ _) _ _) _ _) _ _) _ _
def Ent.zero : Ent := ⟨0, 0, 0, 0, false⟩
def findE : List Ent → Int → Ent × Bool
  | [], _ => (Ent.zero, false)
  | e :: l, k => if e.key = k then (e, !e.gone) else findE l k
set_option maxRecDepth 100000 in
set_option maxHeartbeats 2000000 in
theorem storeFind_any (base g m : Nat) (S : List EnR) (w : World) (i : Nat) (x : EnR) (key : Int) (h : StoreAt w base g S) (hm : S.length = m) (hx : S[i]? = some x) (hm8 : m ≤ 1000) :
    Calls Try.prog 48 #[.slice (some ⟨g, 0, none⟩) m m, .int .i64 i, .int .i64 key] w fun e w' => e = .returned (.tuple #[entV (findE x.es key).1, .bool (findE x.es key).2]) ∧ Below w.heap.size w w' := by
  have hi : i < m := by rw [← hm]; exact (List.getElem?_eq_some_iff.1 hx).1
  have hxr := h.rows x (List.mem_of_getElem? hx)
  have hxs := h.small x (List.mem_of_getElem? hx)
  have hglt := h.blk.lt
  obtain ⟨xe, xA, xc⟩ := x
  unfold EnR.val at hxr
  dsimp only at hxr hxs
  dsimp only
  have c0 : w.cell? ⟨g, i, none⟩ = some (.slice xA xe.length xc) := h.cell hx
  obtain ⟨q, hq⟩ : ∃ q, q = xe.length := ⟨_, rfl⟩
  rw [← hq] at c0
  obtain ⟨p0, hp0⟩ : ∃ p0, p0 = w.heap.size := ⟨_, rfl⟩
  obtain ⟨wx, hwx⟩ : ∃ wx, wx = w.alloc (.cells #[.int .i64 0, .int .i64 0, .int .i64 0, .int .i64 0, .bool false] 25) := ⟨_, rfl⟩
  have hbx : Below w.heap.size w wx := by rw [hwx]; exact (Below.refl _ _).alloc (Nat.le_refl _) _
  have kx : Blk wx p0 25 #[.int .i64 0, .int .i64 0, .int .i64 0, .int .i64 0, .bool false] := by rw [hwx, hp0]; exact Blk.new w 25 _
  have HRD := hide (show Reads wx w.heap.size 5 xA q (xe.flatMap entCells) by rw [hq]; exact (Reads.of_own hxr).below hbx)
  have hq8 : q ≤ 8 := by rw [hq]; exact hxs
  have HQ := hide hq.symm
  have HKX := hide kx
  have HBX := hide hbx
  have HP0 := hide hp0
  have hi' : (i : Int) < (m : Int) := by omega
  have HWX := hide hwx
  have c0x : wx.cell? ⟨g, i, none⟩ = some (.slice xA q xc) := by rw [hbx.cell (p := ⟨g, i, none⟩) hglt]; exact c0
  clear h hx hxr hm hq hxs hbx kx hp0 hwx c0
  go_enter Try.func48, Try.ntmps48
  go_upto_region 1 with fail
  rw [← unhide HWX, ← unhide HP0]
  go_wp2_with fail
  go_loopw [15] (fun j wr => ∃ (k : Nat), k ≤ q ∧ j = .int .i64 k ∧ Hid (findE (xe.drop k) key = findE xe key) ∧ Below wx.heap.size wx wr) (fun j _ => q - (intOf j).toNat)
  case atStart => exact ⟨0, Nat.zero_le _, rfl, rfl, Below.refl _ _⟩
  case round =>
    obtain ⟨k, hk, rfl, HFI, hb⟩ := hrel
    have hbxs := (unhide HBX).size
    have HWB := hide (show Below w.heap.size w wr from (unhide HBX).trans (hb.mono hbxs))
    have kr := (unhide HKX).below hb (unhide HKX).lt
    have hp0w : p0 < wr.heap.size := kr.lt
    have z0 : wr.cell? ⟨p0, 0, none⟩ = some (.int .i64 0) := kr.cell 0
    have z1 : wr.cell? ⟨p0, 1, none⟩ = some (.int .i64 0) := kr.cell 1
    have z2 : wr.cell? ⟨p0, 2, none⟩ = some (.int .i64 0) := kr.cell 2
    have z3 : wr.cell? ⟨p0, 3, none⟩ = some (.int .i64 0) := kr.cell 3
    have z4 : wr.cell? ⟨p0, 4, none⟩ = some (.bool false) := kr.cell 4
    have g0 := kr.frozen 0
    have g1 := kr.frozen 1
    have g2 := kr.frozen 2
    have g3 := kr.frozen 3
    have g4 := kr.frozen 4
    have HKR := hide kr
    clear kr
    by_cases hlt : k < q
    · obtain ⟨bx, o, e, rfl, _, he, hc⟩ := at_row entCells_len (by omega) ((unhide HRD).below (hb.mono hbxs)) hlt (unhide HQ)
      have e0 : wr.cell? ⟨bx, o + k * 5, none⟩ = some (.int .i64 e.key) := hc 0 _ rfl
      have e1 : wr.cell? ⟨bx, o + k * 5 + 1, none⟩ = some (.int .i64 e.value) := hc 1 _ rfl
      have e2 : wr.cell? ⟨bx, o + k * 5 + 2, none⟩ = some (.int .i64 e.time) := hc 2 _ rfl
      have e3 : wr.cell? ⟨bx, o + k * 5 + 3, none⟩ = some (.int .i64 e.who) := hc 3 _ rfl
      have e4 : wr.cell? ⟨bx, o + k * 5 + 4, none⟩ = some (.bool e.gone) := hc 4 _ rfl
      have HF2 := hide (show (if e.key = key then (e, !e.gone) else findE (xe.drop (k + 1)) key) = findE xe key by have h := unhide HFI; rw [drop_cons xe k e he] at h; exact h)
      have hkq : (k : Int) < (q : Int) := by omega
      obtain ⟨w3, hw3⟩ : ∃ w3, w3 = wr.alloc (.cells #[.int .i64 e.key, .int .i64 e.value, .int .i64 e.time, .int .i64 e.who, .bool e.gone] 25) := ⟨_, rfl⟩
      have hb3 : Below wr.heap.size wr w3 := by rw [hw3]; exact (Below.refl _ _).alloc (Nat.le_refl _) _
      have k3 : Blk w3 wr.heap.size 25 #[.int .i64 e.key, .int .i64 e.value, .int .i64 e.time, .int .i64 e.who, .bool e.gone] := by rw [hw3]; exact Blk.new wr 25 _
      have HW3 := hide hw3
      have HB3 := hide hb3
      have HB := hide hb
      by_cases hke : e.key = key
      · have HF3 := hide (show findE xe key = (e, !e.gone) by rw [← unhide HF2, if_pos hke])
        have hkb : (e.key == key) = true := by simpa using hke
        clear hc he hb HFI hw3 hke
        go_upto_region 5 with fail
        rw [← unhide HW3]
        have r0 : w3.cell? ⟨wr.heap.size, 0, none⟩ = some (.int .i64 e.key) := k3.cell 0
        have r1 : w3.cell? ⟨wr.heap.size, 1, none⟩ = some (.int .i64 e.value) := k3.cell 1
        have r2 : w3.cell? ⟨wr.heap.size, 2, none⟩ = some (.int .i64 e.time) := k3.cell 2
        have r3 : w3.cell? ⟨wr.heap.size, 3, none⟩ = some (.int .i64 e.who) := k3.cell 3
        have r4 : w3.cell? ⟨wr.heap.size, 4, none⟩ = some (.bool e.gone) := k3.cell 4
        have kp := (unhide HKR).below hb3 hp0w
        have y0 : w3.cell? ⟨p0, 0, none⟩ = some (.int .i64 0) := kp.cell 0
        have y1 : w3.cell? ⟨p0, 1, none⟩ = some (.int .i64 0) := kp.cell 1
        have y2 : w3.cell? ⟨p0, 2, none⟩ = some (.int .i64 0) := kp.cell 2
        have y3 : w3.cell? ⟨p0, 3, none⟩ = some (.int .i64 0) := kp.cell 3
        have y4 : w3.cell? ⟨p0, 4, none⟩ = some (.bool false) := kp.cell 4
        have j0 := kp.frozen 0
        have j1 := kp.frozen 1
        have j2 := kp.frozen 2
        have j3 := kp.frozen 3
        have j4 := kp.frozen 4
        have hne : ¬ p0 = wr.heap.size := by omega
        have hne2 : ¬ wr.heap.size = p0 := by omega
        have HKP := hide kp
        clear hb3 k3 kp z0 z1 z2 z3 z4 g0 g1 g2 g3 g4 e0 e1 e2 e3 e4
        go_region
        all_goals
          go_wp2_with fail
          obtain ⟨w5, hw5⟩ : ∃ w5, w5 = (ent5 w3 p0 (.int .i64 e.key) (.int .i64 e.value) (.int .i64 e.time) (.int .i64 e.who) (.bool e.gone)).drew := ⟨_, rfl⟩
          have k5 : Blk w5 p0 25 #[.int .i64 e.key, .int .i64 e.value, .int .i64 e.time, .int .i64 e.who, .bool e.gone] := by rw [hw5]; exact (blk_ent (unhide HKP) rfl _ _ _ _ _).drew
          have hF5 : Only (fun k => k = p0) w3 w5 := by rw [hw5]; exact (only_ent _ _ _ _ _ _ _).drew
          have hw6 : (((((w3.setCell ⟨p0, 0, none⟩ (.int .i64 e.key)).setCell ⟨p0, 1, none⟩ (.int .i64 e.value)).setCell ⟨p0, 2, none⟩ (.int .i64 e.time)).setCell ⟨p0, 3, none⟩ (.int .i64 e.who)).setCell ⟨p0, 4, none⟩ (.bool e.gone)).drew = w5 := hw5.symm
          rw [hw6]
          clear hw6
          have t0 := k5.cell 0
          have t1 := k5.cell 1
          have t2 := k5.cell 2
          have t3 := k5.cell 3
          have t4 := k5.cell 4
          have HEND := hide (show Below w.heap.size w w5 from ((unhide HWB).trans ((unhide HB3).mono (unhide HWB).size)).trans (hF5.to_below (fun x hx _ e => by have := unhide HP0; omega) ((unhide HWB).trans ((unhide HB3).mono (unhide HWB).size)).size))
          clear hw5 k5 hF5
          refine bodyPost_ret (v := .tuple #[.agg #[.int .i64 e.key, .int .i64 e.value, .int .i64 e.time, .int .i64 e.who, .bool e.gone], .bool (!e.gone)]) (by simp [results, Try.results48, go_sem, t0, t1, t2, t3, t4]) rfl (by rw [unhide HF3]; exact ⟨rfl, unhide HEND⟩)
      · have HF3 := hide (show findE (xe.drop (k + 1)) key = findE xe key by rw [← unhide HF2, if_neg hke])
        have hkb : (e.key == key) = false := by simpa using hke
        have HBX3 := hide (hb.trans (hb3.mono hb.size))
        clear hc he hb HFI hw3 hke
        go_wp2_with fail
        rw [← unhide HW3]
        go_roundw
        case rel => exact ⟨k + 1, by omega, by go_num, HF3, unhide HBX3⟩
        case measure => simp [intOf]; omega
    · obtain rfl : k = q := by omega
      have HF3 := hide (show findE xe key = (Ent.zero, false) by have h := unhide HFI; rw [List.drop_of_length_le (by rw [unhide HQ]; exact Nat.le_refl _)] at h; exact h.symm)
      clear hb HFI
      go_wp2_with fail
      obtain ⟨w5, hw5⟩ : ∃ w5, w5 = ent5 wr p0 (.int .i64 0) (.int .i64 0) (.int .i64 0) (.int .i64 0) (.bool false) := ⟨_, rfl⟩
      have k5 : Blk w5 p0 25 #[.int .i64 0, .int .i64 0, .int .i64 0, .int .i64 0, .bool false] := by rw [hw5]; exact blk_ent (unhide HKR) rfl _ _ _ _ _
      have hF5 : Only (fun k => k = p0) wr w5 := by rw [hw5]; exact only_ent _ _ _ _ _ _ _
      have hw6 : ((((wr.setCell ⟨p0, 0, none⟩ (.int .i64 0)).setCell ⟨p0, 1, none⟩ (.int .i64 0)).setCell ⟨p0, 2, none⟩ (.int .i64 0)).setCell ⟨p0, 3, none⟩ (.int .i64 0)).setCell ⟨p0, 4, none⟩ (.bool false) = w5 := hw5.symm
      rw [hw6]
      clear hw6
      have t0 := k5.cell 0
      have t1 := k5.cell 1
      have t2 := k5.cell 2
      have t3 := k5.cell 3
      have t4 := k5.cell 4
      have HEND := hide (show Below w.heap.size w w5 from (unhide HWB).trans (hF5.to_below (fun x hx _ e => by have := unhide HP0; omega) (unhide HWB).size))
      clear hw5 k5 hF5
      refine bodyPost_ret (v := .tuple #[.agg #[.int .i64 0, .int .i64 0, .int .i64 0, .int .i64 0, .bool false], .bool false]) (by simp [results, Try.results48, go_sem, t0, t1, t2, t3, t4]) rfl (by rw [unhide HF3]; exact ⟨rfl, unhide HEND⟩)
end Go.Proofs.Ythmnfbnaeggknaa
