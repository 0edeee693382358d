/- Contracts and plain facts, set together by program out of smaller texts. Conditions: none beyond what each theorem states. -/
import Derived.Test.YtbolcebmbpepdaaGreatDoorM12
import Derived.Test.YtbolcebmbpepdaaGreatDoorM26
import Derived.Test.YtbolcebmbpepdaaGreatDoorM24
import Derived.Test.YtbolcebmbpepdaaGreatDoorM03
namespace Go.Proofs.YtbolcebmbpepdaaGreatDoor
set_option linter.unusedVariables false
section
open Go.RowKit
set_option maxRecDepth 100000 in
set_option maxHeartbeats 4000000 in
theorem zTr (A A' : Option Addr) (n c n' c' : Nat) (a b : List Ent) (B : Nat) (w : World) (hl : a.length = n) (hm : n * 40 ≤ 140737488351232) (hr : Reads w B 5 A n (a.flatMap zAd)) (hl' : b.length = n') (hm' : n' * 40 ≤ 140737488351232) (hr' : Reads w B 5 A' n' (b.flatMap zAd)) (hB : B ≤ w.heap.size) :
    Calls Tryz.prog 115 #[.slice A n c, .slice A' n' c'] w fun e w' => EntsPost (zCz a b) e w w' := by
 have hmx : n ≤ maxLen := by unfold maxLen; omega
 have hmx' : n' ≤ maxLen := by unfold maxLen; omega
 have H1 := hide (zJb A n c a B w hl hmx hr hB)
 have H2 := hide (fun w1 (hb : Below w.heap.size w w1) => zJb A' n' c' b w.heap.size w1 hl' hmx' ((hr'.more hB).below hb) hb.size)
 have H3 := hide (fun w1 (hb : Below w.heap.size w w1) => zWk A n c a w.heap.size w1 hl hm ((hr.more hB).below hb) hb.size)
 have HL := hide hl
 have HL' := hide hl'
 have HR' := hide (hr'.more hB)
 clear hl hr hl' hr'
 cases hmay : mayP a with
 | false =>
  have HF := hide (show zCz a b = ([], 4) by rw [zCz, hmay]; rfl)
  rw [hmay] at H1
  clear hmay
  go_enter Tryz.func115, Tryz.ntmps115
  go_wp2_with fail
  refine (zAa H1).mono ?_
  rintro _ w1 ⟨rfl, hb1⟩
  have HB1 := hide hb1
  clear hb1
  go_wp2_with fail
  go_ret2
  rw [zAa HF]
  exact ⟨_, rfl, World.ownsRow_nil _ _ _ _, zAa HB1⟩
 | true =>
 cases hmay' : mayP b with
 | false =>
  have HF := hide (show zCz a b = ([], 4) by rw [zCz, hmay, hmay']; rfl)
  rw [hmay] at H1
  rw [hmay'] at H2
  clear hmay hmay'
  go_enter Tryz.func115, Tryz.ntmps115
  go_wp2_with fail
  refine (zAa H1).mono ?_
  rintro _ w1 ⟨rfl, hb1⟩
  have HB1 := hide hb1
  clear hb1
  go_wp2_with fail
  refine (zAa H2 w1 (zAa HB1)).mono ?_
  rintro _ w2 ⟨rfl, hb2⟩
  have HB2 := hide ((zAa HB1).trans (hb2.mono (zAa HB1).size))
  clear hb2
  go_wp2_with fail
  go_ret2
  rw [zAa HF]
  exact ⟨_, rfl, World.ownsRow_nil _ _ _ _, zAa HB2⟩
 | true =>
  have HF := hide (show zCz a b = if 8 < (b.foldl insE a).length then ([], 8) else (b.foldl insE a, 0) by rw [zCz, hmay, hmay']; rfl)
  obtain ⟨sa, ka, la, _⟩ := zFf hmay
  obtain ⟨sb, kb, lb, _⟩ := zFf hmay'
  have HFA := hide (fun j => zPt (b.take j) (fun x hx => kb x (List.mem_of_mem_take hx)) a sa ka)
  have HKB := hide kb
  have hn8 : n ≤ 8 := by rw [← zAa HL]; exact la
  have hn8' : n' ≤ 8 := by rw [← zAa HL']; exact lb
  rw [hmay] at H1
  rw [hmay'] at H2
  clear hmay hmay' sa ka la sb kb lb
  go_enter Tryz.func115, Tryz.ntmps115
  go_wp2_with fail
  refine (zAa H1).mono ?_
  rintro _ w1 ⟨rfl, hb1⟩
  have HB1 := hide hb1
  clear hb1
  go_wp2_with fail
  refine (zAa H2 w1 (zAa HB1)).mono ?_
  rintro _ w2 ⟨rfl, hb2⟩
  have HB2 := hide ((zAa HB1).trans (hb2.mono (zAa HB1).size))
  clear hb2
  go_wp2_with fail
  refine (zAa H3 w2 (zAa HB2)).mono ?_
  rintro _ w3 ⟨v3, rfl, hown3, hb3⟩
  have HB3 := hide ((zAa HB2).trans (hb3.mono (zAa HB2).size))
  have HO3 := hide (hown3.mono (zAa HB2).size)
  clear hown3 hb3
  go_wp2_with fail
  go_loopw [6, 23] (fun v i wr => ∃ (j : Nat) (L : List Ent), j ≤ n' ∧ i = .int .i64 j ∧ Hid (L = (b.take j).foldl insE a) ∧ Hid (wr.ownsRow w.heap.size 125 5 v L.length (L.flatMap zAd)) ∧ Below w.heap.size w wr) (fun _ i _ => n' - (intOf i).toNat)
  case atStart => exact ⟨0, a, Nat.zero_le _, rfl, rfl, by rw [zAa HL]; exact HO3, zAa HB3⟩
  case round =>
   obtain ⟨j, L, hj, rfl, HLE, HOL, hb⟩ := hrel
   obtain ⟨sL, kL, lL⟩ := zAa HFA j
   rw [← zAa HLE] at sL kL lL
   have hq16 : L.length ≤ 16 := by rw [List.length_take, zAa HL, zAa HL'] at lL; omega
   obtain ⟨q, hq⟩ : ∃ q, q = L.length := ⟨_, rfl⟩
   have HQ := hide hq.symm
   obtain ⟨AL, cL, rfl, _⟩ := zAf (zAa HOL)
   rw [← hq] at hq16
   rw [← hq]
   rw [← hq] at HOL
   have hsz := hb.size
   by_cases hlt : j < n'
   ·obtain ⟨bx, o, e, rfl, _, he, hc⟩ := zCf zBd (by omega) ((zAa HR').below hb) hlt (zAa HL')
    have e0 : wr.cell? ⟨bx, o + j * 5, none⟩ = some (.int .i64 e.key) := hc 0 _ rfl
    have e1 : wr.cell? ⟨bx, o + j * 5 + 1, none⟩ = some (.int .i64 e.value) := hc 1 _ rfl
    have e2 : wr.cell? ⟨bx, o + j * 5 + 2, none⟩ = some (.int .i64 e.time) := hc 2 _ rfl
    have e3 : wr.cell? ⟨bx, o + j * 5 + 3, none⟩ = some (.int .i64 e.who) := hc 3 _ rfl
    have e4 : wr.cell? ⟨bx, o + j * 5 + 4, none⟩ = some (.bool e.gone) := hc 4 _ rfl
    have hke := zAa HKB e (List.mem_of_getElem? he)
    have hjn : (j : Int) < (n' : Int) := by omega
    have HSU := hide (show (b.take (j + 1)).foldl insE a = insE L e by rw [zBp b j e he, List.foldl_append, ← zAa HLE]; rfl)
    obtain ⟨w5, hw5⟩ : ∃ w5, w5 = wr.alloc (.cells (zAd e).toArray 125) := ⟨_, rfl⟩
    have hb5 : Below wr.heap.size wr w5 := by rw [hw5]; exact (Below.refl _ _).alloc (Nat.le_refl _) _
    have k5 : Blk w5 wr.heap.size 125 (zAd e).toArray := by rw [hw5]; exact Blk.new wr 125 _
    have ho5 := zAi (zAa HOL) hb5
    have HSE := hide (zTq AL q cL L e.key w5.heap.size w5 (zAa HQ) (by omega) (Reads.of_own ho5) (Nat.le_refl _) sL kL hke)
    have HHAD := hide (insE_had L e sL)
    have HNEW := hide (insE_new L e sL)
    have HPL := hide (zZg L e.key)
    have HOW5 := hide ho5
    have HK5 := hide k5
    have HB5 := hide (hb.trans (hb5.mono hsz))
    have HS5 := hide hb5.size
    obtain ⟨p, hp⟩ : ∃ p, p = posE L e.key := ⟨_, rfl⟩
    rw [← hp] at HSE HHAD HNEW HPL
    have HW5 : Hid (w5 = wr.alloc (.cells #[.int .i64 e.key, .int .i64 e.value, .int .i64 e.time, .int .i64 e.who, .bool e.gone] 125)) := hw5
    clear hc he hb hw5 hb5 k5 ho5 sL kL lL hp HLE hq
    go_upto_region 7 with fail
    rw [← zAa HW5]
    have q0 : w5.cell? ⟨wr.heap.size, 0, none⟩ = some (.int .i64 e.key) := (zAa HK5).cell 0
    go_wp2_with fail
    refine (zAa HSE).mono ?_
    rintro _ w6 ⟨rfl, hb6⟩
    have HK6 := hide ((zAa HK5).below hb6 (zAa HK5).lt)
    have HO6 := hide (zAi (zAa HOW5) hb6)
    have HB6 := hide ((zAa HB5).trans (hb6.mono (zAa HB5).size))
    have HS6 := hide hb6.size
    clear hb6 q0 e0 e1 e2 e3 e4
    cases hhad : hadE L e.key with
    | false =>
     have HI := hide (zAa HNEW hhad)
     rw [hhad] at HSE
     clear hhad
     have r0 : w6.cell? ⟨wr.heap.size, 0, none⟩ = some (.int .i64 e.key) := (zAa HK6).cell 0
     have r1 : w6.cell? ⟨wr.heap.size, 1, none⟩ = some (.int .i64 e.value) := (zAa HK6).cell 1
     have r2 : w6.cell? ⟨wr.heap.size, 2, none⟩ = some (.int .i64 e.time) := (zAa HK6).cell 2
     have r3 : w6.cell? ⟨wr.heap.size, 3, none⟩ = some (.int .i64 e.who) := (zAa HK6).cell 3
     have r4 : w6.cell? ⟨wr.heap.size, 4, none⟩ = some (.bool e.gone) := (zAa HK6).cell 4
     obtain ⟨w7, hw7⟩ : ∃ w7, w7 = w6.alloc (.cells (zAd e).toArray 125) := ⟨_, rfl⟩
     have hb7 : Below w6.heap.size w6 w7 := by rw [hw7]; exact (Below.refl _ _).alloc (Nat.le_refl _) _
     have k7 : Blk w7 w6.heap.size 125 (zAd e).toArray := by rw [hw7]; exact Blk.new w6 125 _
     have ho7 := zAi (zAa HO6) hb7
     have hs6 : w.heap.size ≤ w6.heap.size := (zAa HB6).size
     have HIN := hide (zSw w.heap.size AL q cL w6.heap.size p L e w7 ho7 (zAa HQ) (by omega) (by have := zAa HPL; have := zAa HQ; omega) k7 (fun h => by have := ((zAa HO6).lt _ h).2; omega) (by have := hb7.size; omega))
     have HB7 := hide ((zAa HB6).trans (hb7.mono hs6))
     have HO7 := hide ho7
     have HW7 : Hid (w7 = w6.alloc (.cells #[.int .i64 e.key, .int .i64 e.value, .int .i64 e.time, .int .i64 e.who, .bool e.gone] 125)) := hw7
     rw [← zAa HI] at HIN
     clear hw7 hb7 k7 ho7
     go_wp2_with fail
     rw [← zAa HW7]
     refine (zAa HIN).mono ?_
     rintro _ w8 ⟨A8, c8, rfl, hown8, hO8, _⟩
     have HO8 := hide hown8
     have HB8 := hide ((zAa HB7).trans (hO8.to_below (fun x hx _ h => by have := ((zAa HO7).lt x h).1; omega) (zAa HB7).size))
     clear hown8 hO8
     go_wp2_with fail
     go_roundw
     case rel => exact ⟨j + 1, insE L e, by omega, by go_num, (zAa HSU).symm, HO8, zAa HB8⟩
     case measure => simp [intOf]; omega
    | true =>
     obtain ⟨x, hx, hxk, hie⟩ := zAa HHAD hhad
     clear hhad
     have hpq : p < q := by have := (List.getElem?_eq_some_iff.1 hx).1; have := zAa HQ; omega
     obtain ⟨g, cap, hv, hbg, hgl⟩ := (zAa HO6).form (by omega)
     injection hv with h1 _ h2
     subst h1 h2
     have hcx : ∀ r v, (zAd x)[r]? = some v → w6.cell? ⟨g, p * 5 + r, none⟩ = some v := fun r v hr => by
      refine zEz (zAa HO6) _ ?_
      have hr5 : r < 5 := (List.getElem?_eq_some_iff.1 hr).1
      rw [zEk zAd 5 zBd L p r hr5, hx]
      exact hr
     have x0 := fun n : Ext w6 => n.cell (hcx 0 _ rfl)
     have x1 := fun n : Ext w6 => n.cell (hcx 1 _ rfl)
     have x2 := fun n : Ext w6 => n.cell (hcx 2 _ rfl)
     have x3 := fun n : Ext w6 => n.cell (hcx 3 _ rfl)
     have x4 := fun n : Ext w6 => n.cell (hcx 4 _ rfl)
     simp only [Nat.add_zero] at x0
     have r0 := fun n : Ext w6 => n.cell (show w6.cell? ⟨wr.heap.size, 0, none⟩ = some (.int .i64 e.key) from (zAa HK6).cell 0)
     have r1 := fun n : Ext w6 => n.cell (show w6.cell? ⟨wr.heap.size, 1, none⟩ = some (.int .i64 e.value) from (zAa HK6).cell 1)
     have r2 := fun n : Ext w6 => n.cell (show w6.cell? ⟨wr.heap.size, 2, none⟩ = some (.int .i64 e.time) from (zAa HK6).cell 2)
     have r3 := fun n : Ext w6 => n.cell (show w6.cell? ⟨wr.heap.size, 3, none⟩ = some (.int .i64 e.who) from (zAa HK6).cell 3)
     have r4 := fun n : Ext w6 => n.cell (show w6.cell? ⟨wr.heap.size, 4, none⟩ = some (.bool e.gone) from (zAa HK6).cell 4)
     have hpq' : (p : Int) < (q : Int) := by omega
     have HX := hide hx
     have HIE := hide hie
     have HNW := hide (fun W => zUq e x W)
     clear hcx hx hie hxk
     go_wp2_with fail
     refine zCr (by kernel_rfl) (by kernel_rfl) ?_
     repeat (go_big_quiet_step ((go_at_call 138; exact zDi (zAa HNW _))))
     refine wpQuiet_nil ?_
     rintro _ ⟨nq, rfl⟩
     have hnq := nq.h
     have HKn := hide ((zAa HK6).below hnq (zAa HK6).lt)
     have HOn := hide (zAi (zAa HO6) hnq)
     have HBn := hide ((zAa HB6).trans (hnq.mono (zAa HB6).size))
     obtain ⟨W0, hW0⟩ : ∃ W0, W0 = nq.W := ⟨_, rfl⟩
     rw [← hW0] at HKn HOn HBn
     rw [← hW0]
     clear hW0 hnq x0 x1 x2 x3 x4 r0 r1 r2 r3 r4
     cases hnew : zPr e x with
     | false =>
      have HIF := hide (show insE L e = L by rw [zAa HIE, hnew]; rfl)
      clear hnew
      go_wp2_with fail
      go_roundw
      case rel => exact ⟨j + 1, L, by omega, by go_num, hide (show L = (b.take (j + 1)).foldl insE a by rw [zAa HSU, zAa HIF]), by rw [zAa HQ]; exact HOn, zAa HBn⟩
      case measure => simp [intOf]; omega
     | true =>
      have HIF := hide (show insE L e = L.set p e by rw [zAa HIE, hnew]; rfl)
      clear hnew
      have r0 : W0.cell? ⟨wr.heap.size, 0, none⟩ = some (.int .i64 e.key) := (zAa HKn).cell 0
      have r1 : W0.cell? ⟨wr.heap.size, 1, none⟩ = some (.int .i64 e.value) := (zAa HKn).cell 1
      have r2 : W0.cell? ⟨wr.heap.size, 2, none⟩ = some (.int .i64 e.time) := (zAa HKn).cell 2
      have r3 : W0.cell? ⟨wr.heap.size, 3, none⟩ = some (.int .i64 e.who) := (zAa HKn).cell 3
      have r4 : W0.cell? ⟨wr.heap.size, 4, none⟩ = some (.bool e.gone) := (zAa HKn).cell 4
      obtain ⟨cur, hkc, _, _, _, _, _⟩ := zYy (zAa HOn)
      have hcx : ∀ r v, (zAd x)[r]? = some v → W0.cell? ⟨g, p * 5 + r, none⟩ = some v := fun r v hr => by
       refine zEz (zAa HOn) _ ?_
       have hr5 : r < 5 := (List.getElem?_eq_some_iff.1 hr).1
       rw [zEk zAd 5 zBd L p r hr5, zAa HX]
       exact hr
      have y0 : W0.cell? ⟨g, p * 5, none⟩ = some (.int .i64 x.key) := hcx 0 _ rfl
      have y1 := hcx 1 _ rfl
      have y2 := hcx 2 _ rfl
      have y3 := hcx 3 _ rfl
      have y4 := hcx 4 _ rfl
      have f0 := hkc.frozen (p * 5)
      have f1 := hkc.frozen (p * 5 + 1)
      have f2 := hkc.frozen (p * 5 + 2)
      have f3 := hkc.frozen (p * 5 + 3)
      have f4 := hkc.frozen (p * 5 + 4)
      have HPU := hide (own_put5 (zAa HOn) (zAa HQ) (zAa HX) e)
      have HPB : Hid (Below w.heap.size w (zVy W0 g p e)) := (((((zAa HBn).setCell (p := ⟨g, p * 5, none⟩) hbg _).setCell (p := ⟨g, p * 5 + 1, none⟩) hbg _).setCell (p := ⟨g, p * 5 + 2, none⟩) hbg _).setCell (p := ⟨g, p * 5 + 3, none⟩) hbg _).setCell (p := ⟨g, p * 5 + 4, none⟩) hbg _
      clear hcx hkc
      go_wp2_with fail
      go_roundw
      case rel => exact ⟨j + 1, L.set p e, by omega, by go_num, hide (show L.set p e = (b.take (j + 1)).foldl insE a by rw [zAa HSU, zAa HIF]), by rw [List.length_set, zAa HQ]; exact HPU, zAa HPB⟩
      case measure => simp [intOf]; omega
   ·obtain rfl : j = n' := by omega
    have hLf : L = b.foldl insE a := by rw [zAa HLE, List.take_of_length_le (by rw [zAa HL']; exact Nat.le_refl _)]
    rw [← hLf] at HF
    have HB := hide hb
    clear hb hLf HLE sL kL lL
    by_cases h8 : 8 < q
    ·have HF2 := hide (show zCz a b = ([], 8) by rw [zAa HF, if_pos (by rw [zAa HQ]; exact h8)])
     have h8' : (8 : Int) < (q : Int) := by omega
     clear hq
     go_wp2_with fail
     go_ret2
     rw [zAa HF2]
     exact ⟨_, rfl, World.ownsRow_nil _ _ _ _, zAa HB⟩
    ·have HF2 := hide (show zCz a b = (L, 0) by rw [zAa HF, if_neg (by rw [zAa HQ]; exact h8)])
     have h8' : (q : Int) ≤ 8 := by omega
     clear hq
     go_wp2_with fail
     go_ret2
     rw [zAa HF2]
     exact ⟨_, rfl, by dsimp only; rw [zAa HQ]; exact zAa HOL, zAa HB⟩
end
section
open Go.RowKit
structure StoreAt (w : World) (base g : Nat) (S : List EnR) : Prop where
 blk : Blk w g 103 (S.map EnR.val).toArray
 rows : ∀ r ∈ S, w.ownsRow base 125 5 r.val r.es.length (r.es.flatMap zAd)
 small : ∀ r ∈ S, r.es.length ≤ 8
 low : base ≤ g
section
variable {w w' : World} {base g : Nat} {S : List EnR}
theorem StoreAt.only {D : Nat → Prop} (h : StoreAt w base g S) (ho : Only D w w') (h1 : ¬ D g) (h2 : ∀ r ∈ S, ∀ k, r.val.ownBlock = some k → ¬ D k) : StoreAt w' base g S :=
 ⟨h.blk.only ho h1, fun r hr => zAk (h.rows r hr) ho (h2 r hr), h.small, h.low⟩
theorem StoreAt.calm (h : StoreAt w base g S) (hb : Below w.heap.size w w') : StoreAt w' base g S :=
 h.only (D := fun _ => False) (Only.of_below hb (fun x h1 h2 => by omega)) (fun e => e) (fun _ _ _ _ e => e)
theorem StoreAt.cell (h : StoreAt w base g S) {i : Nat} {r : EnR} (hi : S[i]? = some r) : w.cell? ⟨g, i, none⟩ = some r.val := by
 rw [h.blk.cell i]
 simp [hi]
theorem StoreAt.set_ (h : StoreAt w base g S) {i : Nat} (hi : i < S.length) {r : EnR} (hr : w.ownsRow base 125 5 r.val r.es.length (r.es.flatMap zAd)) (hs : r.es.length ≤ 8) : StoreAt (w.setCell ⟨g, i, none⟩ r.val) base g (S.set i r) := by
 have hO : Only (fun k => k = g) w (w.setCell ⟨g, i, none⟩ r.val) := zAg (Only.refl _ _) _ _
 have key : ∀ x : EnR, w.ownsRow base 125 5 x.val x.es.length (x.es.flatMap zAd) → (w.setCell ⟨g, i, none⟩ r.val).ownsRow base 125 5 x.val x.es.length (x.es.flatMap zAd) := fun x hx => zAk hx hO fun k hk e => zAe hx h.blk (by decide) (by rw [hk, e])
 refine ⟨?_, fun x hx => ?_, fun x hx => ?_, h.low⟩
 ·have h1 := h.blk.set_ i r.val
  have e : (S.map EnR.val).toArray.setIfInBounds i r.val = ((S.set i r).map EnR.val).toArray := by
   rw [← Array.toList_inj]
   simp [List.map_set]
  rw [e] at h1
  exact h1
 ·rcases List.mem_or_eq_of_mem_set hx with h1 | h1
  ·exact key x (h.rows x h1)
  ·rw [h1]; exact key r hr
 ·rcases List.mem_or_eq_of_mem_set hx with h1 | h1
  ·exact h.small x h1
  ·rw [h1]; exact hs
theorem zYg (a b : List Ent) : (zCz a b).1.length ≤ 8 := by
 unfold zCz
 split
 ·split
  ·simp
  ·dsimp only; omega
 ·simp
end
def zNu (w : World) (base g : Nat) (S : List EnR) (i : Nat) (es : List Ent) (e : Ending) (w' : World) : Prop :=
 e = .returned (.tuple #[]) ∧ ∃ r : EnR, r.es = es ∧ StoreAt w' base g (S.set i r) ∧ Only (fun k => k = g) w w' ∧ ∀ k, r.val.ownBlock = some k → w.heap.size ≤ k
set_option maxRecDepth 100000 in
set_option maxHeartbeats 1000000 in
theorem zKx (base g m : Nat) (S : List EnR) (w : World) (i : Nat) (x : EnR) (A : Option Addr) (n c : Nat) (b : List Ent) (B : Nat) (h : StoreAt w base g S) (hm : S.length = m) (hx : S[i]? = some x) (hl : b.length = n) (hn : n * 40 ≤ 140737488351232) (hr : Reads w B 5 A n (b.flatMap zAd)) (hB : B ≤ w.heap.size) (hb0 : base ≤ w.heap.size) (hm8 : m ≤ 1000) :
    Calls Tryz.prog 90 #[.slice (some ⟨g, 0, none⟩) m m, .int .i64 i, .slice A n c] w (zNu w base g S i (zCz x.es b).1) := by
 have hi : i < m := by rw [← hm]; exact (List.getElem?_eq_some_iff.1 hx).1
 have hxr := h.rows x (List.mem_of_getElem? hx)
 have hxs := h.small x (List.mem_of_getElem? hx)
 obtain ⟨xe, xA, xc⟩ := x
 unfold EnR.val at hxr
 dsimp only at hxr hxs
 have c0 : w.cell? ⟨g, i, none⟩ = some (.slice xA xe.length xc) := h.cell hx
 have HME := hide (zTr xA A xe.length xc n c xe b w.heap.size w rfl (by omega) (Reads.of_own hxr) hl hn (hr.more hB) (Nat.le_refl _))
 obtain ⟨q, hq⟩ : ∃ q, q = xe.length := ⟨_, rfl⟩
 rw [← hq] at c0 HME
 have hi' : (i : Int) < (m : Int) := by omega
 have HX := hide h
 have HI := hide (show i < S.length by omega)
 have hlen := zYg xe b
 dsimp only
 generalize zCz xe b = r at HME hlen
 obtain ⟨re, rc⟩ := r
 dsimp only at hlen
 have HLE := hide hlen
 have HQ := hide hq
 clear h hx hxr hxs hr hl hlen hq hm
 go_enter Tryz.func90, Tryz.ntmps90
 go_wp2_with fail
 refine (zAa HME).mono ?_
 rintro _ w1 ⟨v1, rfl, ho1, hb1⟩
 dsimp only at ho1
 obtain ⟨A1, c1, rfl, _⟩ := zAf ho1
 have HX1 := hide ((zAa HX).calm hb1)
 have HO1 := hide (zBr ho1 hb0)
 have HB1 := hide hb1
 have HLW := hide (fun k hk => (ho1.lt k hk).1)
 have y0 : w1.cell? ⟨g, i, none⟩ = some (.slice xA q xc) := by rw [hb1.cell (p := ⟨g, i, none⟩) (zAa HX).blk.lt]; exact c0
 have y0f := (zAa HX1).blk.frozen i
 clear ho1 hb1 c0
 go_wp2_with fail
 go_end0
 have h1 := (zAa HX1).set_ (zAa HI) (r := ⟨re, A1, c1⟩) (zAa HO1) (zAa HLE)
 exact ⟨rfl, ⟨re, A1, c1⟩, rfl, h1, zAg (Only.of_below (zAa HB1) (fun x h1 h2 => by omega)) _ _, zAa HLW⟩
def zGr (l : List Ent) (t : Int) : Int := l.foldl (fun t e => max t e.time) t
set_option maxRecDepth 100000 in
set_option maxHeartbeats 1000000 in
theorem zTa (base g m : Nat) (S : List EnR) (w : World) (i : Nat) (x : EnR) (h : StoreAt w base g S) (hm : S.length = m) (hx : S[i]? = some x) (ht : ∀ e ∈ x.es, 0 ≤ e.time ∧ e.time ≤ 2000000) (hm8 : m ≤ 1000) :
    Calls Tryz.prog 139 #[.slice (some ⟨g, 0, none⟩) m m, .int .i64 i] w fun e w' => e = .returned (.int .i64 (zGr x.es 0 + 1)) ∧ Below w.heap.size w w' := by
 have hi : i < m := by rw [← hm]; exact (List.getElem?_eq_some_iff.1 hx).1
 have hxr := h.rows x (List.mem_of_getElem? hx)
 have hxs := h.small x (List.mem_of_getElem? hx)
 obtain ⟨xe, xA, xc⟩ := x
 unfold EnR.val at hxr
 dsimp only at hxr hxs ht
 dsimp only
 have c0 : w.cell? ⟨g, i, none⟩ = some (.slice xA xe.length xc) := h.cell hx
 obtain ⟨q, hq⟩ : ∃ q, q = xe.length := ⟨_, rfl⟩
 rw [← hq] at c0
 have HRD := hide (show Reads w w.heap.size 5 xA q (xe.flatMap zAd) by rw [hq]; exact Reads.of_own hxr)
 have HQ := hide hq.symm
 have HT := hide ht
 have hi' : (i : Int) < (m : Int) := by omega
 clear h hx hxr ht hm
 go_enter Tryz.func139, Tryz.ntmps139
 go_wp2_with fail
 go_loopw [5, 13] (fun t j wr => ∃ (k : Nat) (z : Int), k ≤ q ∧ j = .int .i64 k ∧ t = .int .i64 z ∧ (0 ≤ z ∧ z ≤ 2000000) ∧ Hid (zGr (xe.drop k) z = zGr xe 0) ∧ Below w.heap.size w wr) (fun _ j _ => q - (intOf j).toNat)
 case atStart => exact ⟨0, 0, Nat.zero_le _, rfl, rfl, by omega, rfl, Below.refl _ _⟩
 case round =>
  obtain ⟨k, z, hk, rfl, rfl, hz, HTL, hb⟩ := hrel
  by_cases hlt : k < q
  ·obtain ⟨bx, o, e, rfl, _, he, hc⟩ := zCf zBd (by omega) ((zAa HRD).below hb) hlt (zAa HQ)
   have e0 : wr.cell? ⟨bx, o + k * 5, none⟩ = some (.int .i64 e.key) := hc 0 _ rfl
   have e1 : wr.cell? ⟨bx, o + k * 5 + 1, none⟩ = some (.int .i64 e.value) := hc 1 _ rfl
   have e2 : wr.cell? ⟨bx, o + k * 5 + 2, none⟩ = some (.int .i64 e.time) := hc 2 _ rfl
   have e3 : wr.cell? ⟨bx, o + k * 5 + 3, none⟩ = some (.int .i64 e.who) := hc 3 _ rfl
   have e4 : wr.cell? ⟨bx, o + k * 5 + 4, none⟩ = some (.bool e.gone) := hc 4 _ rfl
   have het := zAa HT e (List.mem_of_getElem? he)
   have HT2 := hide (show zGr (xe.drop (k + 1)) (max z e.time) = zGr xe 0 by have h := zAa HTL; rw [zCb xe k e he] at h; exact h)
   have hkq : (k : Int) < (q : Int) := by omega
   have HB := hide (hb.trans (((Below.refl _ wr).alloc (Nat.le_refl _) (.cells #[.int .i64 e.key, .int .i64 e.value, .int .i64 e.time, .int .i64 e.who, .bool e.gone] 125)).mono hb.size))
   clear hc he hb HTL
   go_wp2_with fail
   go_roundw
   case rel => exact ⟨k + 1, max z e.time, by omega, by go_num, rfl, by omega, HT2, zAa HB⟩
   case measure => simp [intOf]; omega
  ·obtain rfl : k = q := by omega
   have HF := hide (show zGr xe 0 = z by have h := zAa HTL; rw [List.drop_of_length_le (by rw [zAa HQ]; exact Nat.le_refl _)] at h; exact h.symm)
   have HB := hide hb
   clear hb HTL
   go_wp2_with fail
   go_ret
   rw [zAa HF]
   exact ⟨rfl, zAa HB⟩
end
section
open Go.RowKit
def putE (l : List Ent) (who key value : Int) (gone : Bool) : List Ent := (zCz l [⟨key, value, zGr l 0 + 1, who, gone⟩]).1
set_option maxRecDepth 100000 in
set_option maxHeartbeats 1000000 in
theorem zWc (base g m : Nat) (S : List EnR) (w : World) (i : Nat) (x : EnR) (who key value : Int) (gone : Bool) (h : StoreAt w base g S) (hm : S.length = m) (hx : S[i]? = some x) (ht : ∀ e ∈ x.es, 0 ≤ e.time ∧ e.time ≤ 2000000) (hb0 : base ≤ w.heap.size) (hm8 : m ≤ 1000) :
    Calls Tryz.prog 116 #[.slice (some ⟨g, 0, none⟩) m m, .int .i64 i, .int .i64 who, .int .i64 key, .int .i64 value, .bool gone] w (zNu w base g S i (putE x.es who key value gone)) := by
 have HNX := hide (zTa base g m S w i x h hm hx ht hm8)
 have HX := hide h
 have HM := hide hm
 have HXX := hide hx
 have HF := hide (show putE x.es who key value gone = (zCz x.es [⟨key, value, zGr x.es 0 + 1, who, gone⟩]).1 from rfl)
 obtain ⟨t, ht2⟩ : ∃ t, t = zGr x.es 0 + 1 := ⟨_, rfl⟩
 rw [← ht2] at HNX HF
 clear h hm hx ht ht2
 go_enter Tryz.func116, Tryz.ntmps116
 go_wp2_with fail
 refine (zAa HNX).mono ?_
 rintro _ w1 ⟨rfl, hb1⟩
 obtain ⟨w2, hw2⟩ : ∃ w2, w2 = (w1.alloc (.cells #[.int .i64 key, .int .i64 value, .int .i64 t, .int .i64 who, .bool gone] 125)).alloc (.cells #[.int .i64 key, .int .i64 value, .int .i64 t, .int .i64 who, .bool gone] 125) := ⟨_, rfl⟩
 have hb2 : Below w1.heap.size w1 w2 := by rw [hw2]; exact ((Below.refl _ _).alloc (Nat.le_refl _) _).alloc (by simp) _
 have k2 : Blk w2 (w1.heap.size + 1) 125 (zAd ⟨key, value, t, who, gone⟩).toArray := by
  have h := Blk.new (w1.alloc (.cells #[.int .i64 key, .int .i64 value, .int .i64 t, .int .i64 who, .bool gone] 125)) 125 (zAd ⟨key, value, t, who, gone⟩).toArray
  rw [hw2]
  simpa [zAd] using h
 have HB2 := hide (hb1.trans (hb2.mono hb1.size))
 have HX2 := (zAa HX).calm (zAa HB2)
 have HLE := hide (zKx base g m S w2 i x (some ⟨w1.heap.size + 1, 0, none⟩) 1 1 [⟨key, value, t, who, gone⟩] w2.heap.size HX2 (zAa HM) (zAa HXX) rfl (by omega) (by simpa using zRz k2 5 rfl) (Nat.le_refl _) (Nat.le_trans hb0 (zAa HB2).size) hm8)
 have HW2 := hide hw2
 clear hb1 hw2 hb2 k2 HX2
 go_wp2_with fail
 rw [← zAa HW2]
 refine (zAa HLE).mono ?_
 rintro _ w3 ⟨rfl, r, hre, hst, hon, hlw⟩
 go_wp2_with fail
 go_end0
 rw [zAa HF]
 have hs := (zAa HB2).size
 exact ⟨rfl, r, hre, hst, (Only.of_below (zAa HB2) (fun x h1 h2 => by omega)).trans hon (fun _ _ h => h), fun k hk => by have := hlw k hk; omega⟩
theorem arr5 (cs : Array Value) (hs : cs.size = 5) (b0 b1 b2 b3 b4 : Value) : ((((cs.setIfInBounds 0 b0).setIfInBounds 1 b1).setIfInBounds 2 b2).setIfInBounds 3 b3).setIfInBounds 4 b4 = #[b0, b1, b2, b3, b4] := by
 obtain ⟨l⟩ := cs
 match l, hs with
 | [x0, x1, x2, x3, x4], _ => rfl
def ent5 (w : World) (b : Nat) (b0 b1 b2 b3 b4 : Value) : World := ((((w.setCell ⟨b, 0, none⟩ b0).setCell ⟨b, 1, none⟩ b1).setCell ⟨b, 2, none⟩ b2).setCell ⟨b, 3, none⟩ b3).setCell ⟨b, 4, none⟩ b4
theorem zQy {w : World} {b : Nat} {cs : Array Value} (h : Blk w b 125 cs) (hs : cs.size = 5) (b0 b1 b2 b3 b4 : Value) :
    Blk (ent5 w b b0 b1 b2 b3 b4) b 125 #[b0, b1, b2, b3, b4] := by
 rw [← arr5 cs hs b0 b1 b2 b3 b4]
 exact ((((h.set_ 0 b0).set_ 1 b1).set_ 2 b2).set_ 3 b3).set_ 4 b4
theorem zPg (w : World) (b : Nat) (b0 b1 b2 b3 b4 : Value) : Only (fun k => k = b) w (ent5 w b b0 b1 b2 b3 b4) :=
 zAg (zAg (zAg (zAg (zAg (Only.refl _ _) _ _) _ _) _ _) _ _) _ _
def Ent.zero : Ent := ⟨0, 0, 0, 0, false⟩
def zEr : List Ent → Int → Ent × Bool
 | [], _ => (Ent.zero, false)
 | e :: l, k => if e.key = k then (e, !e.gone) else zEr l k
set_option maxRecDepth 100000 in
set_option maxHeartbeats 2000000 in
theorem zTd (base g m : Nat) (S : List EnR) (w : World) (i : Nat) (x : EnR) (key : Int) (h : StoreAt w base g S) (hm : S.length = m) (hx : S[i]? = some x) (hm8 : m ≤ 1000) :
    Calls Tryz.prog 117 #[.slice (some ⟨g, 0, none⟩) m m, .int .i64 i, .int .i64 key] w fun e w' => e = .returned (.tuple #[entV (zEr x.es key).1, .bool (zEr x.es key).2]) ∧ Below w.heap.size w w' := by
 have hi : i < m := by rw [← hm]; exact (List.getElem?_eq_some_iff.1 hx).1
 have hxr := h.rows x (List.mem_of_getElem? hx)
 have hxs := h.small x (List.mem_of_getElem? hx)
 have hglt := h.blk.lt
 obtain ⟨xe, xA, xc⟩ := x
 unfold EnR.val at hxr
 dsimp only at hxr hxs
 dsimp only
 have c0 : w.cell? ⟨g, i, none⟩ = some (.slice xA xe.length xc) := h.cell hx
 obtain ⟨q, hq⟩ : ∃ q, q = xe.length := ⟨_, rfl⟩
 rw [← hq] at c0
 obtain ⟨p0, hp0⟩ : ∃ p0, p0 = w.heap.size := ⟨_, rfl⟩
 obtain ⟨wx, hwx⟩ : ∃ wx, wx = w.alloc (.cells #[.int .i64 0, .int .i64 0, .int .i64 0, .int .i64 0, .bool false] 125) := ⟨_, rfl⟩
 have hbx : Below w.heap.size w wx := by rw [hwx]; exact (Below.refl _ _).alloc (Nat.le_refl _) _
 have kx : Blk wx p0 125 #[.int .i64 0, .int .i64 0, .int .i64 0, .int .i64 0, .bool false] := by rw [hwx, hp0]; exact Blk.new w 125 _
 have HRD := hide (show Reads wx w.heap.size 5 xA q (xe.flatMap zAd) by rw [hq]; exact (Reads.of_own hxr).below hbx)
 have hq8 : q ≤ 8 := by rw [hq]; exact hxs
 have HQ := hide hq.symm
 have HKX := hide kx
 have HBX := hide hbx
 have HP0 := hide hp0
 have hi' : (i : Int) < (m : Int) := by omega
 have HWX := hide hwx
 have c0x : wx.cell? ⟨g, i, none⟩ = some (.slice xA q xc) := by rw [hbx.cell (p := ⟨g, i, none⟩) hglt]; exact c0
 clear h hx hxr hm hq hxs hbx kx hp0 hwx c0
 go_enter Tryz.func117, Tryz.ntmps117
 go_upto_region 1 with fail
 rw [← zAa HWX, ← zAa HP0]
 go_wp2_with fail
 go_loopw [15] (fun j wr => ∃ (k : Nat), k ≤ q ∧ j = .int .i64 k ∧ Hid (zEr (xe.drop k) key = zEr xe key) ∧ Below wx.heap.size wx wr) (fun j _ => q - (intOf j).toNat)
 case atStart => exact ⟨0, Nat.zero_le _, rfl, rfl, Below.refl _ _⟩
 case round =>
  obtain ⟨k, hk, rfl, HFI, hb⟩ := hrel
  have hbxs := (zAa HBX).size
  have HWB := hide (show Below w.heap.size w wr from (zAa HBX).trans (hb.mono hbxs))
  have kr := (zAa HKX).below hb (zAa HKX).lt
  have hp0w : p0 < wr.heap.size := kr.lt
  have z0 : wr.cell? ⟨p0, 0, none⟩ = some (.int .i64 0) := kr.cell 0
  have z1 : wr.cell? ⟨p0, 1, none⟩ = some (.int .i64 0) := kr.cell 1
  have z2 : wr.cell? ⟨p0, 2, none⟩ = some (.int .i64 0) := kr.cell 2
  have z3 : wr.cell? ⟨p0, 3, none⟩ = some (.int .i64 0) := kr.cell 3
  have z4 : wr.cell? ⟨p0, 4, none⟩ = some (.bool false) := kr.cell 4
  have g0 := kr.frozen 0
  have g1 := kr.frozen 1
  have g2 := kr.frozen 2
  have g3 := kr.frozen 3
  have g4 := kr.frozen 4
  have HKR := hide kr
  clear kr
  by_cases hlt : k < q
  ·obtain ⟨bx, o, e, rfl, _, he, hc⟩ := zCf zBd (by omega) ((zAa HRD).below (hb.mono hbxs)) hlt (zAa HQ)
   have e0 : wr.cell? ⟨bx, o + k * 5, none⟩ = some (.int .i64 e.key) := hc 0 _ rfl
   have e1 : wr.cell? ⟨bx, o + k * 5 + 1, none⟩ = some (.int .i64 e.value) := hc 1 _ rfl
   have e2 : wr.cell? ⟨bx, o + k * 5 + 2, none⟩ = some (.int .i64 e.time) := hc 2 _ rfl
   have e3 : wr.cell? ⟨bx, o + k * 5 + 3, none⟩ = some (.int .i64 e.who) := hc 3 _ rfl
   have e4 : wr.cell? ⟨bx, o + k * 5 + 4, none⟩ = some (.bool e.gone) := hc 4 _ rfl
   have HF2 := hide (show (if e.key = key then (e, !e.gone) else zEr (xe.drop (k + 1)) key) = zEr xe key by have h := zAa HFI; rw [zCb xe k e he] at h; exact h)
   have hkq : (k : Int) < (q : Int) := by omega
   obtain ⟨w3, hw3⟩ : ∃ w3, w3 = wr.alloc (.cells #[.int .i64 e.key, .int .i64 e.value, .int .i64 e.time, .int .i64 e.who, .bool e.gone] 125) := ⟨_, rfl⟩
   have hb3 : Below wr.heap.size wr w3 := by rw [hw3]; exact (Below.refl _ _).alloc (Nat.le_refl _) _
   have k3 : Blk w3 wr.heap.size 125 #[.int .i64 e.key, .int .i64 e.value, .int .i64 e.time, .int .i64 e.who, .bool e.gone] := by rw [hw3]; exact Blk.new wr 125 _
   have HW3 := hide hw3
   have HB3 := hide hb3
   have HB := hide hb
   by_cases hke : e.key = key
   ·have HF3 := hide (show zEr xe key = (e, !e.gone) by rw [← zAa HF2, if_pos hke])
    have hkb : (e.key == key) = true := by simpa using hke
    clear hc he hb HFI hw3 hke
    go_upto_region 5 with fail
    rw [← zAa HW3]
    have r0 : w3.cell? ⟨wr.heap.size, 0, none⟩ = some (.int .i64 e.key) := k3.cell 0
    have r1 : w3.cell? ⟨wr.heap.size, 1, none⟩ = some (.int .i64 e.value) := k3.cell 1
    have r2 : w3.cell? ⟨wr.heap.size, 2, none⟩ = some (.int .i64 e.time) := k3.cell 2
    have r3 : w3.cell? ⟨wr.heap.size, 3, none⟩ = some (.int .i64 e.who) := k3.cell 3
    have r4 : w3.cell? ⟨wr.heap.size, 4, none⟩ = some (.bool e.gone) := k3.cell 4
    have kp := (zAa HKR).below hb3 hp0w
    have y0 : w3.cell? ⟨p0, 0, none⟩ = some (.int .i64 0) := kp.cell 0
    have y1 : w3.cell? ⟨p0, 1, none⟩ = some (.int .i64 0) := kp.cell 1
    have y2 : w3.cell? ⟨p0, 2, none⟩ = some (.int .i64 0) := kp.cell 2
    have y3 : w3.cell? ⟨p0, 3, none⟩ = some (.int .i64 0) := kp.cell 3
    have y4 : w3.cell? ⟨p0, 4, none⟩ = some (.bool false) := kp.cell 4
    have j0 := kp.frozen 0
    have j1 := kp.frozen 1
    have j2 := kp.frozen 2
    have j3 := kp.frozen 3
    have j4 := kp.frozen 4
    have hne : ¬ p0 = wr.heap.size := by omega
    have hne2 : ¬ wr.heap.size = p0 := by omega
    have HKP := hide kp
    clear hb3 k3 kp z0 z1 z2 z3 z4 g0 g1 g2 g3 g4 e0 e1 e2 e3 e4
    go_region
    all_goals
     go_wp2_with fail
     obtain ⟨w5, hw5⟩ : ∃ w5, w5 = (ent5 w3 p0 (.int .i64 e.key) (.int .i64 e.value) (.int .i64 e.time) (.int .i64 e.who) (.bool e.gone)).drew := ⟨_, rfl⟩
     have k5 : Blk w5 p0 125 #[.int .i64 e.key, .int .i64 e.value, .int .i64 e.time, .int .i64 e.who, .bool e.gone] := by rw [hw5]; exact (zQy (zAa HKP) rfl _ _ _ _ _).drew
     have hF5 : Only (fun k => k = p0) w3 w5 := by rw [hw5]; exact (zPg _ _ _ _ _ _ _).drew
     have hw6 : (((((w3.setCell ⟨p0, 0, none⟩ (.int .i64 e.key)).setCell ⟨p0, 1, none⟩ (.int .i64 e.value)).setCell ⟨p0, 2, none⟩ (.int .i64 e.time)).setCell ⟨p0, 3, none⟩ (.int .i64 e.who)).setCell ⟨p0, 4, none⟩ (.bool e.gone)).drew = w5 := hw5.symm
     rw [hw6]
     clear hw6
     have t0 := k5.cell 0
     have t1 := k5.cell 1
     have t2 := k5.cell 2
     have t3 := k5.cell 3
     have t4 := k5.cell 4
     have HEND := hide (show Below w.heap.size w w5 from ((zAa HWB).trans ((zAa HB3).mono (zAa HWB).size)).trans (hF5.to_below (fun x hx _ e => by have := zAa HP0; omega) ((zAa HWB).trans ((zAa HB3).mono (zAa HWB).size)).size))
     clear hw5 k5 hF5
     refine bodyPost_ret (v := .tuple #[.agg #[.int .i64 e.key, .int .i64 e.value, .int .i64 e.time, .int .i64 e.who, .bool e.gone], .bool (!e.gone)]) (by simp [results, Tryz.results117, go_sem, t0, t1, t2, t3, t4]) rfl (by rw [zAa HF3]; exact ⟨rfl, zAa HEND⟩)
   ·have HF3 := hide (show zEr (xe.drop (k + 1)) key = zEr xe key by rw [← zAa HF2, if_neg hke])
    have hkb : (e.key == key) = false := by simpa using hke
    have HBX3 := hide (hb.trans (hb3.mono hb.size))
    clear hc he hb HFI hw3 hke
    go_wp2_with fail
    rw [← zAa HW3]
    go_roundw
    case rel => exact ⟨k + 1, by omega, by go_num, HF3, zAa HBX3⟩
    case measure => simp [intOf]; omega
  ·obtain rfl : k = q := by omega
   have HF3 := hide (show zEr xe key = (Ent.zero, false) by have h := zAa HFI; rw [List.drop_of_length_le (by rw [zAa HQ]; exact Nat.le_refl _)] at h; exact h.symm)
   clear hb HFI
   go_wp2_with fail
   obtain ⟨w5, hw5⟩ : ∃ w5, w5 = ent5 wr p0 (.int .i64 0) (.int .i64 0) (.int .i64 0) (.int .i64 0) (.bool false) := ⟨_, rfl⟩
   have k5 : Blk w5 p0 125 #[.int .i64 0, .int .i64 0, .int .i64 0, .int .i64 0, .bool false] := by rw [hw5]; exact zQy (zAa HKR) rfl _ _ _ _ _
   have hF5 : Only (fun k => k = p0) wr w5 := by rw [hw5]; exact zPg _ _ _ _ _ _ _
   have hw6 : ((((wr.setCell ⟨p0, 0, none⟩ (.int .i64 0)).setCell ⟨p0, 1, none⟩ (.int .i64 0)).setCell ⟨p0, 2, none⟩ (.int .i64 0)).setCell ⟨p0, 3, none⟩ (.int .i64 0)).setCell ⟨p0, 4, none⟩ (.bool false) = w5 := hw5.symm
   rw [hw6]
   clear hw6
   have t0 := k5.cell 0
   have t1 := k5.cell 1
   have t2 := k5.cell 2
   have t3 := k5.cell 3
   have t4 := k5.cell 4
   have HEND := hide (show Below w.heap.size w w5 from (zAa HWB).trans (hF5.to_below (fun x hx _ e => by have := zAa HP0; omega) (zAa HWB).size))
   clear hw5 k5 hF5
   refine bodyPost_ret (v := .tuple #[.agg #[.int .i64 0, .int .i64 0, .int .i64 0, .int .i64 0, .bool false], .bool false]) (by simp [results, Tryz.results117, go_sem, t0, t1, t2, t3, t4]) rfl (by rw [zAa HF3]; exact ⟨rfl, zAa HEND⟩)
end
section
open Go.RowKit
theorem in_and1 (v j : Nat) (hv : v ≤ 255) : (bits .and .i64 ((v : Int) / 2 ^ j) 1 == 1) = v.testBit j := by
 have e : ((v:Int) / 2 ^ j) = ((v / 2 ^ j : Nat) : Int) := by simp
 have hd : v / 2 ^ j ≤ 255 := Nat.le_trans (Nat.div_le_self _ _) hv
 rw [e, show (1:Int) = ((1:Nat):Int) from rfl, zFj _ _ (by omega) (by omega), Nat.and_one_is_mod, Nat.testBit_eq_decide_div_mod_eq]
 rw [Bool.eq_iff_iff]; simp; omega
theorem yCs (v j : Nat) (w : World) (hv : v ≤ 255) (hj : j ≤ 62) : Calls Tryz.prog 54 #[.int .i64 v, .int .i64 j] w fun e w' => e = .returned (.bool (v.testBit j)) ∧ w = w' := by
 have hbit := in_and1 v j hv
 have HV := hide hv
 clear hv
 go_enter Tryz.func54, Tryz.ntmps54
 go_wp2_with fail
 go_ret
 exact ⟨rfl, rfl⟩
end
end Go.Proofs.YtbolcebmbpepdaaGreatDoor
