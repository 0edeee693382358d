/- Contract of EntriesMerge (the reference); the law RegMerges. Conditions: none beyond what each theorem states. -/
import Derived.Test.YthmnfbnaeggknaaRegM
import Derived.Test.YthmnfbnaeggknaaRegI
namespace Go.Proofs.Ythmnfbnaeggknaa
open Go.RowKit
set_option linter.unusedVariables false

def mergeR (a b : List Ent) : List Ent × Int := if mayP a && mayP b then (if 8 < (merge2 a b).length then ([], 8) else (merge2 a b, 0)) else ([], 4)
theorem merge_same (a b : List Ent) : mergeP a b = mergeR a b := by
  unfold mergeP mergeR
  cases ha : mayP a with
  | false => rfl
  | true =>
    cases hb : mayP b with
    | false => rfl
    | true => rw [merge2_fold b a (mayP_facts hb).1]
theorem own_drewN' {w : World} {base size n m : Nat} {e : TypeId} {v : Value} {xs : List Value} (h : w.ownsRow base e size v n xs) : (w.drewN m).ownsRow base e size v n xs := h

set_option maxRecDepth 100000 in
set_option maxHeartbeats 8000000 in
theorem entriesMerge_any (A A' : Option Addr) (n c n' c' : Nat) (a b : List Ent) (B : Nat) (w : World) (hl : a.length = n) (hm : n * 40 ≤ 140737488351232) (hr : Reads w B 5 A n (a.flatMap entCells)) (hl' : b.length = n') (hm' : n' * 40 ≤ 140737488351232) (hr' : Reads w B 5 A' n' (b.flatMap entCells)) (hB : B ≤ w.heap.size) :
    Calls Try.prog 16 #[.slice A n c, .slice A' n' c'] w fun e w' => EntsPost (mergeR a b) e w w' := by
  have hmx : n ≤ maxLen := by unfold maxLen; omega
  have hmx' : n' ≤ maxLen := by unfold maxLen; omega
  obtain ⟨i0, hi, hz0, hz1, hz2⟩ := ent_info
  have H1 := hide (entriesMay_any A n c a B w hl hmx hr hB)
  have H2 := hide (fun w1 (hb : Below w.heap.size w w1) => entriesMay_any A' n' c' b w.heap.size w1 hl' hmx' ((hr'.more hB).below hb) hb.size)
  have HL := hide hl
  have HL' := hide hl'
  have HR := hide (hr.more hB)
  have HR' := hide (hr'.more hB)
  clear hl hr hl' hr'
  cases hmay : mayP a with
  | false =>
    have HF := hide (show mergeR a b = ([], 4) by rw [mergeR, hmay]; rfl)
    rw [hmay] at H1
    clear hmay
    go_enter Try.func16, Try.ntmps16
    go_wp2_with fail
    refine (unhide H1).mono ?_
    rintro _ w1 ⟨rfl, hb1⟩
    have HB1 := hide hb1
    clear hb1
    go_wp2_with fail
    go_ret2
    rw [unhide HF]
    exact ⟨_, rfl, World.ownsRow_nil _ _ _ _, unhide HB1⟩
  | true =>
  cases hmay' : mayP b with
  | false =>
    have HF := hide (show mergeR a b = ([], 4) by rw [mergeR, hmay, hmay']; rfl)
    rw [hmay] at H1
    rw [hmay'] at H2
    clear hmay hmay'
    go_enter Try.func16, Try.ntmps16
    go_wp2_with fail
    refine (unhide H1).mono ?_
    rintro _ w1 ⟨rfl, hb1⟩
    have HB1 := hide hb1
    clear hb1
    go_wp2_with fail
    refine (unhide H2 w1 (unhide HB1)).mono ?_
    rintro _ w2 ⟨rfl, hb2⟩
    have HB2 := hide ((unhide HB1).trans (hb2.mono (unhide HB1).size))
    clear hb2
    go_wp2_with fail
    go_ret2
    rw [unhide HF]
    exact ⟨_, rfl, World.ownsRow_nil _ _ _ _, unhide HB2⟩
  | true =>
    have HF := hide (show mergeR a b = if 8 < (merge2 a b).length then ([], 8) else (merge2 a b, 0) by rw [mergeR, hmay, hmay']; rfl)
    obtain ⟨sa, ka, la, _⟩ := mayP_facts hmay
    obtain ⟨sb, kb, lb, _⟩ := mayP_facts hmay'
    have hn8 : n ≤ 8 := by rw [← unhide HL]; exact la
    have hn8' : n' ≤ 8 := by rw [← unhide HL']; exact lb
    rw [hmay] at H1
    rw [hmay'] at H2
    clear hmay hmay' sa ka la sb kb lb
    go_enter Try.func16, Try.ntmps16
    go_wp2_with fail
    refine (unhide H1).mono ?_
    rintro _ w1 ⟨rfl, hb1⟩
    have HB1 := hide hb1
    clear hb1
    go_wp2_with fail
    refine (unhide H2 w1 (unhide HB1)).mono ?_
    rintro _ w2 ⟨rfl, hb2⟩
    have HB2 := hide ((unhide HB1).trans (hb2.mono (unhide HB1).size))
    clear hb2
    go_wp2_with fail
    go_loopw [6, 7, 8] (fun v x y wr => ∃ (i k : Nat) (O : List Ent), i ≤ n ∧ k ≤ n' ∧ x = .int .i64 i ∧ y = .int .i64 k ∧ Hid (O.length ≤ i + k) ∧ Hid (O ++ merge2 (a.drop i) (b.drop k) = merge2 a b) ∧ Hid (wr.ownsRow w.heap.size 25 5 v O.length (O.flatMap entCells)) ∧ Below w.heap.size w wr) (fun _ x y _ => n + n' - (intOf x).toNat - (intOf y).toNat)
    case atStart => exact ⟨0, 0, [], Nat.zero_le _, Nat.zero_le _, rfl, rfl, Nat.zero_le _, rfl, World.ownsRow_nil _ _ _ _, unhide HB2⟩
    case round =>
      obtain ⟨i, k, O, hin, hkn, rfl, rfl, HOI, HME, HOL, hb⟩ := hrel
      obtain ⟨q, hq⟩ : ∃ q, q = O.length := ⟨_, rfl⟩
      have hq16 : q ≤ 16 := by have := unhide HOI; omega
      have HQ := hide hq.symm
      obtain ⟨AO, cO, rfl, _⟩ := own_slice (unhide HOL)
      rw [← hq]
      rw [← hq] at HOL
      have hsz := hb.size
      have hmq : (q + 1) * 40 ≤ 140737488355328 := by omega
      by_cases hi1 : i < n
      · obtain ⟨bx, ox, x, hAx, _, hx, hcx⟩ := at_row entCells_len (by omega) ((unhide HR).below hb) hi1 (unhide HL)
        have ex0 : wr.cell? ⟨bx, ox + i * 5, none⟩ = some (.int .i64 x.key) := hcx 0 _ rfl
        have ex1 : wr.cell? ⟨bx, ox + i * 5 + 1, none⟩ = some (.int .i64 x.value) := hcx 1 _ rfl
        have ex2 : wr.cell? ⟨bx, ox + i * 5 + 2, none⟩ = some (.int .i64 x.time) := hcx 2 _ rfl
        have ex3 : wr.cell? ⟨bx, ox + i * 5 + 3, none⟩ = some (.int .i64 x.who) := hcx 3 _ rfl
        have ex4 : wr.cell? ⟨bx, ox + i * 5 + 4, none⟩ = some (.bool x.gone) := hcx 4 _ rfl
        have hia : a.drop i = x :: a.drop (i + 1) := drop_cons a i x hx
        have hi1' : (i : Int) < (n : Int) := by omega
        have hin' : decide (i < n) = true := decide_eq_true hi1
        by_cases hk1 : k < n'
        · obtain ⟨by_, oy, y, hAy, _, hy, hcy⟩ := at_row entCells_len (by omega) ((unhide HR').below hb) hk1 (unhide HL')
          have ey0 : wr.cell? ⟨by_, oy + k * 5, none⟩ = some (.int .i64 y.key) := hcy 0 _ rfl
          have ey1 : wr.cell? ⟨by_, oy + k * 5 + 1, none⟩ = some (.int .i64 y.value) := hcy 1 _ rfl
          have ey2 : wr.cell? ⟨by_, oy + k * 5 + 2, none⟩ = some (.int .i64 y.time) := hcy 2 _ rfl
          have ey3 : wr.cell? ⟨by_, oy + k * 5 + 3, none⟩ = some (.int .i64 y.who) := hcy 3 _ rfl
          have ey4 : wr.cell? ⟨by_, oy + k * 5 + 4, none⟩ = some (.bool y.gone) := hcy 4 _ rfl
          have hkb : b.drop k = y :: b.drop (k + 1) := drop_cons b k y hy
          have hk1' : (k : Int) < (n' : Int) := by omega
          have hkn' : ((k : Int) == (n' : Int)) = false := by simp; omega
          have hin2 : ((i : Int) == (n : Int)) = false := by simp; omega
          subst hAx hAy
          rw [hia, hkb, merge2] at HME
          have HKB := hide hkb
          have HIA := hide hia
          have HB := hide hb
          clear hcx hcy hx hy hia hkb hb hq
          by_cases h1 : x.key < y.key
          · rw [if_pos h1] at HME
            have HM2 := hide (show (O ++ [x]) ++ merge2 (a.drop (i + 1)) (b.drop k) = merge2 a b by rw [unhide HKB]; simpa using unhide HME)
            go_wp2_with fail
            go_quiet (fail)
            go_wp2_with (first
              | (at_builtin; (refine wpList_append_new _ rfl (.tmp 51) (.tmp 56) _ rfl w.heap.size 25 i0 _ 5 40 Try.underlying22 hi hz0 hz1 hz2 rfl (by omega) (by omega) _ q _ (own_drewN' (unhide HOL)) rfl _ 1 _ rfl rfl rfl (by simp [Value.oneCell']) hmq hsz ?_); intro g4 cap4 w4 hg4 hown4 hbel4 hgr4 hat4))
            have HO4 := hide (show w4.ownsRow w.heap.size 25 5 (.slice (some ⟨g4, 0, none⟩) (q + 1) cap4) (O ++ [x]).length ((O ++ [x]).flatMap entCells) by rw [List.length_append, unhide HQ, List.flatMap_append]; simpa [entCells] using hown4)
            have HB4 := hide (hbel4 _ _ (Nat.le_refl _) (below_drewN (unhide HB) nq))
            clear hown4 hbel4 hgr4 hat4 hg4
            go_roundw
            case rel => exact ⟨i + 1, k, O ++ [x], by omega, by omega, by go_num, by go_num, hide (show (O ++ [x]).length ≤ i + 1 + (k) by rw [List.length_append]; have := unhide HOI; simp; omega), HM2, HO4, unhide HB4⟩
            case measure => simp [intOf]; omega
          by_cases h2 : y.key < x.key
          · rw [if_neg h1, if_pos h2] at HME
            have HM2 := hide (show (O ++ [y]) ++ merge2 (a.drop i) (b.drop (k + 1)) = merge2 a b by rw [unhide HIA]; simpa using unhide HME)
            go_wp2_with fail
            go_quiet (fail)
            obtain ⟨na, rfl⟩ : ∃ m, m = nq := ⟨_, rfl⟩
            go_wp2_with fail
            go_quiet (fail)
            go_wp2_with (first
              | (at_builtin; (refine wpList_append_new _ rfl (.tmp 77) (.tmp 82) _ rfl w.heap.size 25 i0 _ 5 40 Try.underlying22 hi hz0 hz1 hz2 rfl (by omega) (by omega) _ q _ (own_drewN' (unhide HOL)) rfl _ 1 _ rfl rfl rfl (by simp [Value.oneCell']) hmq hsz ?_); intro g4 cap4 w4 hg4 hown4 hbel4 hgr4 hat4))
            have HO4 := hide (show w4.ownsRow w.heap.size 25 5 (.slice (some ⟨g4, 0, none⟩) (q + 1) cap4) (O ++ [y]).length ((O ++ [y]).flatMap entCells) by rw [List.length_append, unhide HQ, List.flatMap_append]; simpa [entCells] using hown4)
            have HB4 := hide (hbel4 _ _ (Nat.le_refl _) (below_drewN (unhide HB) _))
            clear hown4 hbel4 hgr4 hat4 hg4
            go_roundw
            case rel => exact ⟨i, k + 1, O ++ [y], by omega, by omega, by go_num, by go_num, hide (show (O ++ [y]).length ≤ i + (k + 1) by rw [List.length_append]; have := unhide HOI; simp; omega), HM2, HO4, unhide HB4⟩
            case measure => simp [intOf]; omega
          · rw [if_neg h1, if_neg h2] at HME
            have HM2 := hide (show (O ++ [if newerP y x then y else x]) ++ merge2 (a.drop (i + 1)) (b.drop (k + 1)) = merge2 a b by simpa using unhide HME)
            have HNW := hide (fun W => entryNewer_any y x W)
            go_wp2_with fail
            go_quiet (fail)
            obtain ⟨na, rfl⟩ : ∃ m, m = nq := ⟨_, rfl⟩
            go_wp2_with fail
            go_quiet (fail)
            go_upto_region 13 with fail
            obtain ⟨wq, hwq⟩ : ∃ wq, wq = (wr.drewN na).drewN nq := ⟨_, rfl⟩
            rw [← hwq]
            have HBq := hide (show Below w.heap.size w wq by rw [hwq]; exact below_drewN (below_drewN (unhide HB) _) _)
            have HOq := hide (show wq.ownsRow w.heap.size 25 5 (.slice AO q cO) q (O.flatMap entCells) by rw [hwq]; exact own_drewN' (unhide HOL))
            replace ex0 : wq.cell? ⟨bx, ox + i * 5, none⟩ = some (.int .i64 x.key) := by rw [hwq]; exact ex0
            replace ex1 : wq.cell? ⟨bx, ox + i * 5 + 1, none⟩ = some (.int .i64 x.value) := by rw [hwq]; exact ex1
            replace ex2 : wq.cell? ⟨bx, ox + i * 5 + 2, none⟩ = some (.int .i64 x.time) := by rw [hwq]; exact ex2
            replace ex3 : wq.cell? ⟨bx, ox + i * 5 + 3, none⟩ = some (.int .i64 x.who) := by rw [hwq]; exact ex3
            replace ex4 : wq.cell? ⟨bx, ox + i * 5 + 4, none⟩ = some (.bool x.gone) := by rw [hwq]; exact ex4
            replace ey0 : wq.cell? ⟨by_, oy + k * 5, none⟩ = some (.int .i64 y.key) := by rw [hwq]; exact ey0
            replace ey1 : wq.cell? ⟨by_, oy + k * 5 + 1, none⟩ = some (.int .i64 y.value) := by rw [hwq]; exact ey1
            replace ey2 : wq.cell? ⟨by_, oy + k * 5 + 2, none⟩ = some (.int .i64 y.time) := by rw [hwq]; exact ey2
            replace ey3 : wq.cell? ⟨by_, oy + k * 5 + 3, none⟩ = some (.int .i64 y.who) := by rw [hwq]; exact ey3
            replace ey4 : wq.cell? ⟨by_, oy + k * 5 + 4, none⟩ = some (.bool y.gone) := by rw [hwq]; exact ey4
            clear hwq
            obtain ⟨w5, hw5⟩ : ∃ w5, w5 = wq.alloc (.cells (entCells x).toArray 25) := ⟨_, rfl⟩
            have hb5 : Below wq.heap.size wq w5 := by rw [hw5]; exact (Below.refl _ _).alloc (Nat.le_refl _) _
            have k5 : Blk w5 wq.heap.size 25 (entCells x).toArray := by rw [hw5]; exact Blk.new wq 25 _
            have HB5 := hide ((unhide HBq).trans (hb5.mono (unhide HBq).size))
            have HO5 := hide (own_below' (unhide HOq) hb5)
            have hE : ∀ (p : Addr) v, wq.cell? p = some v → ∀ n : Ext w5, n.W.cell? p = some v := fun p v h n => n.cell (((⟨w5, hb5⟩ : Ext wq)).cell h)
            have HZ := hide (And.intro (hE _ _ ey0) (And.intro (hE _ _ ey1) (And.intro (hE _ _ ey2) (And.intro (hE _ _ ey3) (hE _ _ ey4)))))
            have HK5 := hide k5
            have HW5 : Hid (w5 = wq.alloc (.cells #[.int .i64 x.key, .int .i64 x.value, .int .i64 x.time, .int .i64 x.who, .bool x.gone] 25)) := hw5
            clear hE hw5 hb5 k5
            go_upto_region 14 with fail
            rw [← unhide HW5]
            obtain ⟨z0, z1, z2, z3, z4⟩ := unhide HZ
            have r0 := fun n : Ext w5 => n.cell (show w5.cell? ⟨wq.heap.size, 0, none⟩ = some (.int .i64 x.key) from (unhide HK5).cell 0)
            have r1 := fun n : Ext w5 => n.cell (show w5.cell? ⟨wq.heap.size, 1, none⟩ = some (.int .i64 x.value) from (unhide HK5).cell 1)
            have r2 := fun n : Ext w5 => n.cell (show w5.cell? ⟨wq.heap.size, 2, none⟩ = some (.int .i64 x.time) from (unhide HK5).cell 2)
            have r3 := fun n : Ext w5 => n.cell (show w5.cell? ⟨wq.heap.size, 3, none⟩ = some (.int .i64 x.who) from (unhide HK5).cell 3)
            have r4 := fun n : Ext w5 => n.cell (show w5.cell? ⟨wq.heap.size, 4, none⟩ = some (.bool x.gone) from (unhide HK5).cell 4)
            clear ex0 ex1 ex2 ex3 ex4 ey0 ey1 ey2 ey3 ey4
            refine wp_region_calm (by kernel_rfl) (by kernel_rfl) ?_
            repeat (go_big_quiet_step ((go_at_call 11; exact calm_call (unhide HNW _))))
            refine wpQuiet_nil ?_
            rintro _ ⟨n5, rfl⟩
            have hn5 := n5.h
            have y0 := z0 n5
            have y1 := z1 n5
            have y2 := z2 n5
            have y3 := z3 n5
            have y4 := z4 n5
            have HKn := hide ((unhide HK5).below hn5 (unhide HK5).lt)
            have HOn := hide (own_below' (unhide HO5) hn5)
            have HBn := hide ((unhide HB5).trans (hn5.mono (unhide HB5).size))
            obtain ⟨W0, hW0⟩ : ∃ W0, W0 = n5.W := ⟨_, rfl⟩
            rw [← hW0] at HKn HOn HBn y0 y1 y2 y3 y4
            rw [← hW0]
            have hqs : w.heap.size ≤ wq.heap.size := (unhide HBq).size
            clear hW0 hn5 z0 z1 z2 z3 z4 r0 r1 r2 r3 r4
            have k0 : W0.cell? ⟨wq.heap.size, 0, none⟩ = some (.int .i64 x.key) := (unhide HKn).cell 0
            have k1 : W0.cell? ⟨wq.heap.size, 1, none⟩ = some (.int .i64 x.value) := (unhide HKn).cell 1
            have k2 : W0.cell? ⟨wq.heap.size, 2, none⟩ = some (.int .i64 x.time) := (unhide HKn).cell 2
            have k3 : W0.cell? ⟨wq.heap.size, 3, none⟩ = some (.int .i64 x.who) := (unhide HKn).cell 3
            have k4 : W0.cell? ⟨wq.heap.size, 4, none⟩ = some (.bool x.gone) := (unhide HKn).cell 4
            cases hnew : newerP y x with
            | false =>
              rw [hnew, if_neg (by decide)] at HM2
              have hsz0 : w.heap.size ≤ W0.heap.size := (unhide HBn).size
              clear hnew
              go_wp2_with (first
                | (at_builtin; (refine wpList_append_new _ rfl (.tmp 100) (.tmp 102) _ rfl w.heap.size 25 i0 _ 5 40 Try.underlying22 hi hz0 hz1 hz2 rfl (by omega) (by omega) _ q _ (unhide HOn) rfl _ 1 _ rfl rfl rfl (by simp [Value.oneCell']) hmq hsz0 ?_); intro g4 cap4 w4 hg4 hown4 hbel4 hgr4 hat4))
              have HO4 := hide (show w4.ownsRow w.heap.size 25 5 (.slice (some ⟨g4, 0, none⟩) (q + 1) cap4) (O ++ [x]).length ((O ++ [x]).flatMap entCells) by rw [List.length_append, unhide HQ, List.flatMap_append]; simpa [entCells] using hown4)
              have HB4 := hide (hbel4 _ _ (Nat.le_refl _) (unhide HBn))
              clear hown4 hbel4 hgr4 hat4 hg4
              go_roundw
              case rel => exact ⟨i + 1, k + 1, O ++ [x], by omega, by omega, by go_num, by go_num, hide (show (O ++ [x]).length ≤ i + 1 + (k + 1) by rw [List.length_append]; have := unhide HOI; simp; omega), HM2, HO4, unhide HB4⟩
              case measure => simp [intOf]; omega
            | true =>
              rw [hnew, if_pos rfl] at HM2
              have f0 := (unhide HKn).frozen 0
              have f1 := (unhide HKn).frozen 1
              have f2 := (unhide HKn).frozen 2
              have f3 := (unhide HKn).frozen 3
              have f4 := (unhide HKn).frozen 4
              clear hnew
              go_upto_region 16 with fail
              obtain ⟨w6, hw6⟩ : ∃ w6, w6 = ((((W0.setCell ⟨wq.heap.size, 0, none⟩ (.int .i64 y.key)).setCell ⟨wq.heap.size, 1, none⟩ (.int .i64 y.value)).setCell ⟨wq.heap.size, 2, none⟩ (.int .i64 y.time)).setCell ⟨wq.heap.size, 3, none⟩ (.int .i64 y.who)).setCell ⟨wq.heap.size, 4, none⟩ (.bool y.gone) := ⟨_, rfl⟩
              have hO6 : Only (fun k => k = wq.heap.size) W0 w6 := by rw [hw6]; exact only_put (only_put (only_put (only_put (only_put (Only.refl _ _) _ _) _ _) _ _) _ _) _ _
              have k6 : Blk w6 wq.heap.size 25 (entCells y).toArray := by rw [hw6]; exact (((((unhide HKn).set_ 0 _).set_ 1 _).set_ 2 _).set_ 3 _).set_ 4 _
              have HO6 := hide (own_only (unhide HOn) hO6 (fun g hg e => by have := ((unhide HOq).lt g hg).2; omega))
              have HB6 := hide ((unhide HBn).trans (hO6.to_below (fun x hx _ e => by omega) (unhide HBn).size))
              have hsz6 : w.heap.size ≤ w6.heap.size := (unhide HB6).size
              rw [← hw6]
              have p0 : w6.cell? ⟨wq.heap.size, 0, none⟩ = some (.int .i64 y.key) := k6.cell 0
              have p1 : w6.cell? ⟨wq.heap.size, 1, none⟩ = some (.int .i64 y.value) := k6.cell 1
              have p2 : w6.cell? ⟨wq.heap.size, 2, none⟩ = some (.int .i64 y.time) := k6.cell 2
              have p3 : w6.cell? ⟨wq.heap.size, 3, none⟩ = some (.int .i64 y.who) := k6.cell 3
              have p4 : w6.cell? ⟨wq.heap.size, 4, none⟩ = some (.bool y.gone) := k6.cell 4
              clear hw6 hO6 k6 k0 k1 k2 k3 k4 f0 f1 f2 f3 f4 y0 y1 y2 y3 y4
              go_wp2_with (first
                | (at_builtin; (refine wpList_append_new _ rfl (.tmp 100) (.tmp 102) _ rfl w.heap.size 25 i0 _ 5 40 Try.underlying22 hi hz0 hz1 hz2 rfl (by omega) (by omega) _ q _ (unhide HO6) rfl _ 1 _ rfl rfl rfl (by simp [Value.oneCell']) hmq hsz6 ?_); intro g4 cap4 w4 hg4 hown4 hbel4 hgr4 hat4))
              have HO4 := hide (show w4.ownsRow w.heap.size 25 5 (.slice (some ⟨g4, 0, none⟩) (q + 1) cap4) (O ++ [y]).length ((O ++ [y]).flatMap entCells) by rw [List.length_append, unhide HQ, List.flatMap_append]; simpa [entCells] using hown4)
              have HB4 := hide (hbel4 _ _ (Nat.le_refl _) (unhide HB6))
              clear hown4 hbel4 hgr4 hat4 hg4
              go_roundw
              case rel => exact ⟨i + 1, k + 1, O ++ [y], by omega, by omega, by go_num, by go_num, hide (show (O ++ [y]).length ≤ i + 1 + (k + 1) by rw [List.length_append]; have := unhide HOI; simp; omega), HM2, HO4, unhide HB4⟩
              case measure => simp [intOf]; omega
        · obtain rfl : k = n' := by omega
          have hkb : b.drop k = [] := List.drop_of_length_le (by rw [unhide HL']; exact Nat.le_refl _)
          rw [hia, hkb, merge2_nil] at HME
          have HM2 := hide (show (O ++ [x]) ++ merge2 (a.drop (i + 1)) (b.drop k) = merge2 a b by rw [hkb, merge2_nil]; simpa using unhide HME)
          subst hAx
          have HB := hide hb
          clear hcx hx hia hkb hb hq
          go_wp2_with fail
          go_quiet (fail)
          go_wp2_with (first
              | (at_builtin; (refine wpList_append_new _ rfl (.tmp 51) (.tmp 56) _ rfl w.heap.size 25 i0 _ 5 40 Try.underlying22 hi hz0 hz1 hz2 rfl (by omega) (by omega) _ q _ (own_drewN' (unhide HOL)) rfl _ 1 _ rfl rfl rfl (by simp [Value.oneCell']) hmq hsz ?_); intro g4 cap4 w4 hg4 hown4 hbel4 hgr4 hat4))
          have HO4 := hide (show w4.ownsRow w.heap.size 25 5 (.slice (some ⟨g4, 0, none⟩) (q + 1) cap4) (O ++ [x]).length ((O ++ [x]).flatMap entCells) by rw [List.length_append, unhide HQ, List.flatMap_append]; simpa [entCells] using hown4)
          have HB4 := hide (hbel4 _ _ (Nat.le_refl _) (below_drewN (unhide HB) nq))
          clear hown4 hbel4 hgr4 hat4 hg4
          go_roundw
          case rel => exact ⟨i + 1, k, O ++ [x], by omega, by omega, by go_num, by go_num, hide (show (O ++ [x]).length ≤ i + 1 + (k) by rw [List.length_append]; have := unhide HOI; simp; omega), HM2, HO4, unhide HB4⟩
          case measure => simp [intOf]; omega
      · obtain rfl : i = n := by omega
        have hia : a.drop i = [] := List.drop_of_length_le (by rw [unhide HL]; exact Nat.le_refl _)
        have hi1' : ¬ (i : Int) < (i : Int) := by omega
        by_cases hk1 : k < n'
        · obtain ⟨by_, oy, y, hAy, _, hy, hcy⟩ := at_row entCells_len (by omega) ((unhide HR').below hb) hk1 (unhide HL')
          have ey0 : wr.cell? ⟨by_, oy + k * 5, none⟩ = some (.int .i64 y.key) := hcy 0 _ rfl
          have ey1 : wr.cell? ⟨by_, oy + k * 5 + 1, none⟩ = some (.int .i64 y.value) := hcy 1 _ rfl
          have ey2 : wr.cell? ⟨by_, oy + k * 5 + 2, none⟩ = some (.int .i64 y.time) := hcy 2 _ rfl
          have ey3 : wr.cell? ⟨by_, oy + k * 5 + 3, none⟩ = some (.int .i64 y.who) := hcy 3 _ rfl
          have ey4 : wr.cell? ⟨by_, oy + k * 5 + 4, none⟩ = some (.bool y.gone) := hcy 4 _ rfl
          have hkb : b.drop k = y :: b.drop (k + 1) := drop_cons b k y hy
          have hk1' : (k : Int) < (n' : Int) := by omega
          have hkn' : ((k : Int) == (n' : Int)) = false := by simp; omega
          have hin' : decide (i < i) = false := by simp
          subst hAy
          rw [hia, hkb, merge2] at HME
          have HM2 := hide (show (O ++ [y]) ++ merge2 (a.drop i) (b.drop (k + 1)) = merge2 a b by rw [hia, merge2]; simpa using unhide HME)
          have HB := hide hb
          clear hcy hy hia hkb hb hq
          go_wp2_with fail
          go_quiet (fail)
          obtain ⟨na, rfl⟩ : ∃ m, m = nq := ⟨_, rfl⟩
          go_wp2_with fail
          go_quiet (fail)
          go_wp2_with (first
              | (at_builtin; (refine wpList_append_new _ rfl (.tmp 77) (.tmp 82) _ rfl w.heap.size 25 i0 _ 5 40 Try.underlying22 hi hz0 hz1 hz2 rfl (by omega) (by omega) _ q _ (own_drewN' (unhide HOL)) rfl _ 1 _ rfl rfl rfl (by simp [Value.oneCell']) hmq hsz ?_); intro g4 cap4 w4 hg4 hown4 hbel4 hgr4 hat4))
          have HO4 := hide (show w4.ownsRow w.heap.size 25 5 (.slice (some ⟨g4, 0, none⟩) (q + 1) cap4) (O ++ [y]).length ((O ++ [y]).flatMap entCells) by rw [List.length_append, unhide HQ, List.flatMap_append]; simpa [entCells] using hown4)
          have HB4 := hide (hbel4 _ _ (Nat.le_refl _) (below_drewN (unhide HB) _))
          clear hown4 hbel4 hgr4 hat4 hg4
          go_roundw
          case rel => exact ⟨i, k + 1, O ++ [y], by omega, by omega, by go_num, by go_num, hide (show (O ++ [y]).length ≤ i + (k + 1) by rw [List.length_append]; have := unhide HOI; simp; omega), HM2, HO4, unhide HB4⟩
          case measure => simp [intOf]; omega
        · obtain rfl : k = n' := by omega
          have hkb : b.drop k = [] := List.drop_of_length_le (by rw [unhide HL']; exact Nat.le_refl _)
          have hO : O = merge2 a b := by have h := unhide HME; rw [hia, hkb, merge2_nil, List.append_nil] at h; exact h
          rw [← hO] at HF
          have hk1' : ¬ (k : Int) < (k : Int) := by omega
          have HB := hide hb
          clear hb hia hkb hO HME
          by_cases h8 : 8 < q
          · have HF2 := hide (show mergeR a b = ([], 8) by rw [unhide HF, if_pos (by rw [unhide HQ]; exact h8)])
            have h8' : (8 : Int) < (q : Int) := by omega
            clear hq
            go_wp2_with fail
            go_ret2
            rw [unhide HF2]
            exact ⟨_, rfl, World.ownsRow_nil _ _ _ _, unhide HB⟩
          · have HF2 := hide (show mergeR a b = (O, 0) by rw [unhide HF, if_neg (by rw [unhide HQ]; exact h8)])
            have h8' : (q : Int) ≤ 8 := by omega
            clear hq
            go_wp2_with fail
            go_ret2
            rw [unhide HF2]
            exact ⟨_, rfl, by dsimp only; rw [unhide HQ]; exact unhide HOL, unhide HB⟩

theorem mergeP_len (a b : List Ent) : (mergeP a b).1.length ≤ 8 := by
  unfold mergeP
  split
  · split
    · simp
    · dsimp only; omega
  · simp
set_option maxHeartbeats 1000000 in
theorem walk_RegMerges (A : Option Addr) (n c : Nat) (a : List Ent) (A' : Option Addr) (n' c' : Nat) (b : List Ent) (w : World) (m : n * 40 ≤ 140737488351232) (hl : a.length = n) (hr : Reads w w.heap.size 5 A n (a.flatMap entCells)) (m' : n' * 40 ≤ 140737488351232) (hl' : b.length = n') (hr' : Reads w w.heap.size 5 A' n' (b.flatMap entCells)) :
    Calls Try.prog 6 #[.slice A n c, .slice A' n' c'] w fun e w' => e = .returned (.bool true) ∧ Below w.heap.size w w' := by
  have H1 := hide (regMerge_any A A' n c n' c' a b _ w hl m hr hl' m' hr' (Nat.le_refl _))
  have H2 := hide (fun W (hW : Below w.heap.size w W) => entriesMerge_any A A' n c n' c' a b _ W hl m (hr.below hW) hl' m' (hr'.below hW) hW.size)
  have hll := mergeP_len a b
  rw [← merge_same a b] at H2
  generalize mergeP a b = pr at *
  obtain ⟨r, rc⟩ := pr
  dsimp only at hll
  clear hl hr hl' hr'
  go_enter Try.func6, Try.ntmps6
  go_wp2_with fail
  refine (unhide H1).mono ?_
  rintro _ w1 ⟨v1, rfl, ho1, hb1⟩
  obtain ⟨A1, c1, rfl, hc1⟩ := own_slice ho1
  have HR1 := hide ho1
  have HB1 := hide hb1
  clear ho1 hb1
  go_wp2_with fail
  refine (unhide H2 _ (unhide HB1)).mono ?_
  rintro _ w2 ⟨v2, rfl, ho2, hb2⟩
  obtain ⟨A2, c2, rfl, hc2⟩ := own_slice ho2
  have ho1' := own_below' (unhide HR1) hb2
  have HB2 := hide ((unhide HB1).trans (hb2.mono (unhide HB1).size))
  have HS := hide (sameEntries_any A1 A2 r.length c1 c2 r w2.heap.size w2 rfl (by dsimp only at *; omega) (Reads.of_own ho1') (Reads.of_own ho2))
  clear ho2 hb2 ho1' HR1 hc1 hc2
  dsimp only
  go_wp2_with fail
  refine (unhide HS).mono ?_
  rintro _ w3 ⟨rfl, nq, hw3⟩
  have HB3 := hide (show Below w.heap.size w w3 by rw [← hw3]; exact below_drewN (unhide HB2) nq)
  clear hw3
  go_wp2_with fail
  go_ret
  exact ⟨rfl, unhide HB3⟩
end Go.Proofs.Ythmnfbnaeggknaa
