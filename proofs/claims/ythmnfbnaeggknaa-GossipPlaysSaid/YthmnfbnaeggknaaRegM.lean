/- Contract of reg.Merge. Conditions: none beyond what each theorem states. -/
import Derived.Test.YthmnfbnaeggknaaRegL
import Derived.Test.YthmnfbnaeggknaaRegK
import Derived.Test.YthmnfbnaeggknaaRegH
import Derived.Test.YthmnfbnaeggknaaCalm
namespace Go.Proofs.Ythmnfbnaeggknaa
open Go.RowKit
set_option linter.unusedVariables false

set_option maxRecDepth 100000 in
set_option maxHeartbeats 4000000 in
theorem regMerge_any (A A' : Option Addr) (n c n' c' : Nat) (a b : List Ent) (B : Nat) (w : World) (hl : a.length = n) (hm : n * 40 ≤ 140737488351232) (hr : Reads w B 5 A n (a.flatMap entCells)) (hl' : b.length = n') (hm' : n' * 40 ≤ 140737488351232) (hr' : Reads w B 5 A' n' (b.flatMap entCells)) (hB : B ≤ w.heap.size) :
    Calls Try.prog 15 #[.slice A n c, .slice A' n' c'] w fun e w' => EntsPost (mergeP a b) e w w' := by
  have hmx : n ≤ maxLen := by unfold maxLen; omega
  have hmx' : n' ≤ maxLen := by unfold maxLen; omega
  have H1 := hide (regMay_any A n c a B w hl hmx hr hB)
  have H2 := hide (fun w1 (hb : Below w.heap.size w w1) => regMay_any A' n' c' b w.heap.size w1 hl' hmx' ((hr'.more hB).below hb) hb.size)
  have H3 := hide (fun w1 (hb : Below w.heap.size w w1) => entClone_any A n c a w.heap.size w1 hl hm ((hr.more hB).below hb) hb.size)
  have HL := hide hl
  have HL' := hide hl'
  have HR' := hide (hr'.more hB)
  clear hl hr hl' hr'
  cases hmay : mayP a with
  | false =>
    have HF := hide (show mergeP a b = ([], 4) by rw [mergeP, hmay]; rfl)
    rw [hmay] at H1
    clear hmay
    go_enter Try.func15, Try.ntmps15
    go_wp2_with fail
    refine (unhide H1).mono ?_
    rintro _ w1 ⟨rfl, hb1⟩
    have HB1 := hide hb1
    clear hb1
    go_wp2_with fail
    go_ret2
    rw [unhide HF]
    exact ⟨_, rfl, World.ownsRow_nil _ _ _ _, unhide HB1⟩
  | true =>
  cases hmay' : mayP b with
  | false =>
    have HF := hide (show mergeP a b = ([], 4) by rw [mergeP, hmay, hmay']; rfl)
    rw [hmay] at H1
    rw [hmay'] at H2
    clear hmay hmay'
    go_enter Try.func15, Try.ntmps15
    go_wp2_with fail
    refine (unhide H1).mono ?_
    rintro _ w1 ⟨rfl, hb1⟩
    have HB1 := hide hb1
    clear hb1
    go_wp2_with fail
    refine (unhide H2 w1 (unhide HB1)).mono ?_
    rintro _ w2 ⟨rfl, hb2⟩
    have HB2 := hide ((unhide HB1).trans (hb2.mono (unhide HB1).size))
    clear hb2
    go_wp2_with fail
    go_ret2
    rw [unhide HF]
    exact ⟨_, rfl, World.ownsRow_nil _ _ _ _, unhide HB2⟩
  | true =>
    have HF := hide (show mergeP a b = if 8 < (b.foldl insE a).length then ([], 8) else (b.foldl insE a, 0) by rw [mergeP, hmay, hmay']; rfl)
    obtain ⟨sa, ka, la, _⟩ := mayP_facts hmay
    obtain ⟨sb, kb, lb, _⟩ := mayP_facts hmay'
    have HFA := hide (fun j => fold_facts (b.take j) (fun x hx => kb x (List.mem_of_mem_take hx)) a sa ka)
    have HKB := hide kb
    have hn8 : n ≤ 8 := by rw [← unhide HL]; exact la
    have hn8' : n' ≤ 8 := by rw [← unhide HL']; exact lb
    rw [hmay] at H1
    rw [hmay'] at H2
    clear hmay hmay' sa ka la sb kb lb
    go_enter Try.func15, Try.ntmps15
    go_wp2_with fail
    refine (unhide H1).mono ?_
    rintro _ w1 ⟨rfl, hb1⟩
    have HB1 := hide hb1
    clear hb1
    go_wp2_with fail
    refine (unhide H2 w1 (unhide HB1)).mono ?_
    rintro _ w2 ⟨rfl, hb2⟩
    have HB2 := hide ((unhide HB1).trans (hb2.mono (unhide HB1).size))
    clear hb2
    go_wp2_with fail
    refine (unhide H3 w2 (unhide HB2)).mono ?_
    rintro _ w3 ⟨v3, rfl, hown3, hb3⟩
    have HB3 := hide ((unhide HB2).trans (hb3.mono (unhide HB2).size))
    have HO3 := hide (hown3.mono (unhide HB2).size)
    clear hown3 hb3
    go_wp2_with fail
    go_loopw [6, 23] (fun v i wr => ∃ (j : Nat) (L : List Ent), j ≤ n' ∧ i = .int .i64 j ∧ Hid (L = (b.take j).foldl insE a) ∧ Hid (wr.ownsRow w.heap.size 25 5 v L.length (L.flatMap entCells)) ∧ Below w.heap.size w wr) (fun _ i _ => n' - (intOf i).toNat)
    case atStart => exact ⟨0, a, Nat.zero_le _, rfl, rfl, by rw [unhide HL]; exact HO3, unhide HB3⟩
    case round =>
      obtain ⟨j, L, hj, rfl, HLE, HOL, hb⟩ := hrel
      obtain ⟨sL, kL, lL⟩ := unhide HFA j
      rw [← unhide HLE] at sL kL lL
      have hq16 : L.length ≤ 16 := by rw [List.length_take, unhide HL, unhide HL'] at lL; omega
      obtain ⟨q, hq⟩ : ∃ q, q = L.length := ⟨_, rfl⟩
      have HQ := hide hq.symm
      obtain ⟨AL, cL, rfl, _⟩ := own_slice (unhide HOL)
      rw [← hq] at hq16
      rw [← hq]
      rw [← hq] at HOL
      have hsz := hb.size
      by_cases hlt : j < n'
      · obtain ⟨bx, o, e, rfl, _, he, hc⟩ := at_row entCells_len (by omega) ((unhide HR').below hb) hlt (unhide HL')
        have e0 : wr.cell? ⟨bx, o + j * 5, none⟩ = some (.int .i64 e.key) := hc 0 _ rfl
        have e1 : wr.cell? ⟨bx, o + j * 5 + 1, none⟩ = some (.int .i64 e.value) := hc 1 _ rfl
        have e2 : wr.cell? ⟨bx, o + j * 5 + 2, none⟩ = some (.int .i64 e.time) := hc 2 _ rfl
        have e3 : wr.cell? ⟨bx, o + j * 5 + 3, none⟩ = some (.int .i64 e.who) := hc 3 _ rfl
        have e4 : wr.cell? ⟨bx, o + j * 5 + 4, none⟩ = some (.bool e.gone) := hc 4 _ rfl
        have hke := unhide HKB e (List.mem_of_getElem? he)
        have hjn : (j : Int) < (n' : Int) := by omega
        have HSU := hide (show (b.take (j + 1)).foldl insE a = insE L e by rw [take_snoc b j e he, List.foldl_append, ← unhide HLE]; rfl)
        obtain ⟨w5, hw5⟩ : ∃ w5, w5 = wr.alloc (.cells (entCells e).toArray 25) := ⟨_, rfl⟩
        have hb5 : Below wr.heap.size wr w5 := by rw [hw5]; exact (Below.refl _ _).alloc (Nat.le_refl _) _
        have k5 : Blk w5 wr.heap.size 25 (entCells e).toArray := by rw [hw5]; exact Blk.new wr 25 _
        have ho5 := own_below' (unhide HOL) hb5
        have HSE := hide (entSearch_any AL q cL L e.key w5.heap.size w5 (unhide HQ) (by omega) (Reads.of_own ho5) (Nat.le_refl _) sL kL hke)
        have HHAD := hide (insE_had L e sL)
        have HNEW := hide (insE_new L e sL)
        have HPL := hide (posE_le L e.key)
        have HOW5 := hide ho5
        have HK5 := hide k5
        have HB5 := hide (hb.trans (hb5.mono hsz))
        have HS5 := hide hb5.size
        obtain ⟨p, hp⟩ : ∃ p, p = posE L e.key := ⟨_, rfl⟩
        rw [← hp] at HSE HHAD HNEW HPL
        have HW5 : Hid (w5 = wr.alloc (.cells #[.int .i64 e.key, .int .i64 e.value, .int .i64 e.time, .int .i64 e.who, .bool e.gone] 25)) := hw5
        clear hc he hb hw5 hb5 k5 ho5 sL kL lL hp HLE hq
        go_upto_region 7 with fail
        rw [← unhide HW5]
        have q0 : w5.cell? ⟨wr.heap.size, 0, none⟩ = some (.int .i64 e.key) := (unhide HK5).cell 0
        go_wp2_with fail
        refine (unhide HSE).mono ?_
        rintro _ w6 ⟨rfl, hb6⟩
        have HK6 := hide ((unhide HK5).below hb6 (unhide HK5).lt)
        have HO6 := hide (own_below' (unhide HOW5) hb6)
        have HB6 := hide ((unhide HB5).trans (hb6.mono (unhide HB5).size))
        have HS6 := hide hb6.size
        clear hb6 q0 e0 e1 e2 e3 e4
        cases hhad : hadE L e.key with
        | false =>
          have HI := hide (unhide HNEW hhad)
          rw [hhad] at HSE
          clear hhad
          have r0 : w6.cell? ⟨wr.heap.size, 0, none⟩ = some (.int .i64 e.key) := (unhide HK6).cell 0
          have r1 : w6.cell? ⟨wr.heap.size, 1, none⟩ = some (.int .i64 e.value) := (unhide HK6).cell 1
          have r2 : w6.cell? ⟨wr.heap.size, 2, none⟩ = some (.int .i64 e.time) := (unhide HK6).cell 2
          have r3 : w6.cell? ⟨wr.heap.size, 3, none⟩ = some (.int .i64 e.who) := (unhide HK6).cell 3
          have r4 : w6.cell? ⟨wr.heap.size, 4, none⟩ = some (.bool e.gone) := (unhide HK6).cell 4
          obtain ⟨w7, hw7⟩ : ∃ w7, w7 = w6.alloc (.cells (entCells e).toArray 25) := ⟨_, rfl⟩
          have hb7 : Below w6.heap.size w6 w7 := by rw [hw7]; exact (Below.refl _ _).alloc (Nat.le_refl _) _
          have k7 : Blk w7 w6.heap.size 25 (entCells e).toArray := by rw [hw7]; exact Blk.new w6 25 _
          have ho7 := own_below' (unhide HO6) hb7
          have hs6 : w.heap.size ≤ w6.heap.size := (unhide HB6).size
          have HIN := hide (entInsert_any w.heap.size AL q cL w6.heap.size p L e w7 ho7 (unhide HQ) (by omega) (by have := unhide HPL; have := unhide HQ; omega) k7 (fun h => by have := ((unhide HO6).lt _ h).2; omega) (by have := hb7.size; omega))
          have HB7 := hide ((unhide HB6).trans (hb7.mono hs6))
          have HO7 := hide ho7
          have HW7 : Hid (w7 = w6.alloc (.cells #[.int .i64 e.key, .int .i64 e.value, .int .i64 e.time, .int .i64 e.who, .bool e.gone] 25)) := hw7
          rw [← unhide HI] at HIN
          clear hw7 hb7 k7 ho7
          go_wp2_with fail
          rw [← unhide HW7]
          refine (unhide HIN).mono ?_
          rintro _ w8 ⟨A8, c8, rfl, hown8, hO8, _⟩
          have HO8 := hide hown8
          have HB8 := hide ((unhide HB7).trans (hO8.to_below (fun x hx _ h => by have := ((unhide HO7).lt x h).1; omega) (unhide HB7).size))
          clear hown8 hO8
          go_wp2_with fail
          go_roundw
          case rel => exact ⟨j + 1, insE L e, by omega, by go_num, (unhide HSU).symm, HO8, unhide HB8⟩
          case measure => simp [intOf]; omega
        | true =>
          obtain ⟨x, hx, hxk, hie⟩ := unhide HHAD hhad
          clear hhad
          have hpq : p < q := by have := (List.getElem?_eq_some_iff.1 hx).1; have := unhide HQ; omega
          obtain ⟨g, cap, hv, hbg, hgl⟩ := (unhide HO6).form (by omega)
          injection hv with h1 _ h2
          subst h1 h2
          have hcx : ∀ r v, (entCells x)[r]? = some v → w6.cell? ⟨g, p * 5 + r, none⟩ = some v := fun r v hr => by
            refine own_cells (unhide HO6) _ ?_
            have hr5 : r < 5 := (List.getElem?_eq_some_iff.1 hr).1
            rw [flatMap_get entCells 5 entCells_len L p r hr5, hx]
            exact hr
          have x0 := fun n : Ext w6 => n.cell (hcx 0 _ rfl)
          have x1 := fun n : Ext w6 => n.cell (hcx 1 _ rfl)
          have x2 := fun n : Ext w6 => n.cell (hcx 2 _ rfl)
          have x3 := fun n : Ext w6 => n.cell (hcx 3 _ rfl)
          have x4 := fun n : Ext w6 => n.cell (hcx 4 _ rfl)
          simp only [Nat.add_zero] at x0
          have r0 := fun n : Ext w6 => n.cell (show w6.cell? ⟨wr.heap.size, 0, none⟩ = some (.int .i64 e.key) from (unhide HK6).cell 0)
          have r1 := fun n : Ext w6 => n.cell (show w6.cell? ⟨wr.heap.size, 1, none⟩ = some (.int .i64 e.value) from (unhide HK6).cell 1)
          have r2 := fun n : Ext w6 => n.cell (show w6.cell? ⟨wr.heap.size, 2, none⟩ = some (.int .i64 e.time) from (unhide HK6).cell 2)
          have r3 := fun n : Ext w6 => n.cell (show w6.cell? ⟨wr.heap.size, 3, none⟩ = some (.int .i64 e.who) from (unhide HK6).cell 3)
          have r4 := fun n : Ext w6 => n.cell (show w6.cell? ⟨wr.heap.size, 4, none⟩ = some (.bool e.gone) from (unhide HK6).cell 4)
          have hpq' : (p : Int) < (q : Int) := by omega
          have HX := hide hx
          have HIE := hide hie
          have HNW := hide (fun W => regNewer_any e x W)
          clear hcx hx hie hxk
          go_wp2_with fail
          refine wp_region_calm (by kernel_rfl) (by kernel_rfl) ?_
          repeat (go_big_quiet_step ((go_at_call 10; exact calm_call (unhide HNW _))))
          refine wpQuiet_nil ?_
          rintro _ ⟨nq, rfl⟩
          have hnq := nq.h
          have HKn := hide ((unhide HK6).below hnq (unhide HK6).lt)
          have HOn := hide (own_below' (unhide HO6) hnq)
          have HBn := hide ((unhide HB6).trans (hnq.mono (unhide HB6).size))
          obtain ⟨W0, hW0⟩ : ∃ W0, W0 = nq.W := ⟨_, rfl⟩
          rw [← hW0] at HKn HOn HBn
          rw [← hW0]
          clear hW0 hnq x0 x1 x2 x3 x4 r0 r1 r2 r3 r4
          cases hnew : newerP e x with
          | false =>
            have HIF := hide (show insE L e = L by rw [unhide HIE, hnew]; rfl)
            clear hnew
            go_wp2_with fail
            go_roundw
            case rel => exact ⟨j + 1, L, by omega, by go_num, hide (show L = (b.take (j + 1)).foldl insE a by rw [unhide HSU, unhide HIF]), by rw [unhide HQ]; exact HOn, unhide HBn⟩
            case measure => simp [intOf]; omega
          | true =>
            have HIF := hide (show insE L e = L.set p e by rw [unhide HIE, hnew]; rfl)
            clear hnew
            have r0 : W0.cell? ⟨wr.heap.size, 0, none⟩ = some (.int .i64 e.key) := (unhide HKn).cell 0
            have r1 : W0.cell? ⟨wr.heap.size, 1, none⟩ = some (.int .i64 e.value) := (unhide HKn).cell 1
            have r2 : W0.cell? ⟨wr.heap.size, 2, none⟩ = some (.int .i64 e.time) := (unhide HKn).cell 2
            have r3 : W0.cell? ⟨wr.heap.size, 3, none⟩ = some (.int .i64 e.who) := (unhide HKn).cell 3
            have r4 : W0.cell? ⟨wr.heap.size, 4, none⟩ = some (.bool e.gone) := (unhide HKn).cell 4
            obtain ⟨cur, hkc, _, _, _, _, _⟩ := own_cur (unhide HOn)
            have hcx : ∀ r v, (entCells x)[r]? = some v → W0.cell? ⟨g, p * 5 + r, none⟩ = some v := fun r v hr => by
              refine own_cells (unhide HOn) _ ?_
              have hr5 : r < 5 := (List.getElem?_eq_some_iff.1 hr).1
              rw [flatMap_get entCells 5 entCells_len L p r hr5, unhide HX]
              exact hr
            have y0 : W0.cell? ⟨g, p * 5, none⟩ = some (.int .i64 x.key) := hcx 0 _ rfl
            have y1 := hcx 1 _ rfl
            have y2 := hcx 2 _ rfl
            have y3 := hcx 3 _ rfl
            have y4 := hcx 4 _ rfl
            have f0 := hkc.frozen (p * 5)
            have f1 := hkc.frozen (p * 5 + 1)
            have f2 := hkc.frozen (p * 5 + 2)
            have f3 := hkc.frozen (p * 5 + 3)
            have f4 := hkc.frozen (p * 5 + 4)
            have HPU := hide (own_put5 (unhide HOn) (unhide HQ) (unhide HX) e)
            have HPB : Hid (Below w.heap.size w (putEnt W0 g p e)) := (((((unhide HBn).setCell (p := ⟨g, p * 5, none⟩) hbg _).setCell (p := ⟨g, p * 5 + 1, none⟩) hbg _).setCell (p := ⟨g, p * 5 + 2, none⟩) hbg _).setCell (p := ⟨g, p * 5 + 3, none⟩) hbg _).setCell (p := ⟨g, p * 5 + 4, none⟩) hbg _
            clear hcx hkc
            go_wp2_with fail
            go_roundw
            case rel => exact ⟨j + 1, L.set p e, by omega, by go_num, hide (show L.set p e = (b.take (j + 1)).foldl insE a by rw [unhide HSU, unhide HIF]), by rw [List.length_set, unhide HQ]; exact HPU, unhide HPB⟩
            case measure => simp [intOf]; omega
      · obtain rfl : j = n' := by omega
        have hLf : L = b.foldl insE a := by rw [unhide HLE, List.take_of_length_le (by rw [unhide HL']; exact Nat.le_refl _)]
        rw [← hLf] at HF
        have HB := hide hb
        clear hb hLf HLE sL kL lL
        by_cases h8 : 8 < q
        · have HF2 := hide (show mergeP a b = ([], 8) by rw [unhide HF, if_pos (by rw [unhide HQ]; exact h8)])
          have h8' : (8 : Int) < (q : Int) := by omega
          clear hq
          go_wp2_with fail
          go_ret2
          rw [unhide HF2]
          exact ⟨_, rfl, World.ownsRow_nil _ _ _ _, unhide HB⟩
        · have HF2 := hide (show mergeP a b = (L, 0) by rw [unhide HF, if_neg (by rw [unhide HQ]; exact h8)])
          have h8' : (q : Int) ≤ 8 := by omega
          clear hq
          go_wp2_with fail
          go_ret2
          rw [unhide HF2]
          exact ⟨_, rfl, by dsimp only; rw [unhide HQ]; exact unhide HOL, unhide HB⟩
end Go.Proofs.Ythmnfbnaeggknaa
