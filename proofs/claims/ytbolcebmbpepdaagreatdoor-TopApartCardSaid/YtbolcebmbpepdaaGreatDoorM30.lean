/- Contracts and plain facts, set together by program out of smaller texts. Conditions: none beyond what each theorem states. -/
import Derived.BigQuiet
import Derived.Test.YtbolcebmbpepdaaGreatDoorM28
import Derived.Test.YtbolcebmbpepdaaGreatDoorM29
import Derived.Test.YtbolcebmbpepdaaGreatDoorM06
import Derived.Test.YtbolcebmbpepdaaGreatDoorM08
import Derived.Test.YtbolcebmbpepdaaGreatDoorM20
import Derived.Test.YtbolcebmbpepdaaGreatDoorM10
import Derived.Test.YtbolcebmbpepdaaGreatDoorM14
namespace Go.Proofs.YtbolcebmbpepdaaGreatDoor
set_option linter.unusedVariables false
section
open Go.RowKit
def zFi (s d : StpI) : StpI := if s.kind = 7 ∨ s.kind = 8 then { s with kind := 7 + d.kind % 2, key := d.key, count := d.count } else { s with kind := 1 + d.kind % 6, item := d.item % 3, count := d.count, life := d.life, id := d.id }
def zIa (c : Cfg) (x : Nat) (s d : StpI) : StpI := if zLr c x s then zFi s d else s
def zDj (c : Cfg) (x : Nat) (l ds : List StpI) : Nat → List StpI
 | 0 => l
 | k + 1 => (zDj c x l ds k).set k (zIa c x (l.getD k stpZero) (ds.getD k stpZero))
def zEj (c : Cfg) (x : Nat) (l ds : List StpI) : List StpI := zDj c x l ds (min l.length ds.length)
theorem zFk (c : Cfg) (x : Nat) (l ds : List StpI) : ∀ k, (zDj c x l ds k).length = l.length
 | 0 => rfl
 | k + 1 => by rw [zDj, List.length_set, zFk c x l ds k]
theorem zIn (c : Cfg) (x : Nat) (l ds : List StpI) : ∀ k i, (zDj c x l ds k)[i]? = if i < k ∧ i < l.length then some (zIa c x (l.getD i stpZero) (ds.getD i stpZero)) else l[i]?
 | 0, i => by rw [if_neg (by omega)]; rfl
 | k + 1, i => by
  rw [zDj, List.getElem?_set, zFk]
  by_cases h : k = i
  ·subst h
   rw [if_pos rfl]
   by_cases h2 : k < l.length
   ·rw [if_pos h2, if_pos ⟨by omega, h2⟩]
   ·rw [if_neg h2, if_neg (fun e => h2 e.2), List.getElem?_eq_none (by omega)]
  ·rw [if_neg h, zIn c x l ds k i]
   by_cases h2 : i < k ∧ i < l.length
   ·rw [if_pos h2, if_pos ⟨by omega, h2.2⟩]
   ·rw [if_neg h2, if_neg (fun e => h2 ⟨by omega, e.2⟩)]
section
variable {W : World} {base g n cap k : Nat} {l : List StpI} {x : StpI}
theorem zRk {xs : List Value} (h : W.ownsRow base 48 8 (.slice (some ⟨g, 0, none⟩) n cap) n xs) : ∃ cur, Blk W g 48 cur ∧ base ≤ g ∧ n ≤ cap ∧ cap ≤ maxLen ∧ cur.size = cap * 8 ∧ cur.toList.take (n * 8) = xs := by
 rcases h.2 with ⟨h1, _⟩ | ⟨g', cap', cur, h1, hb, hh, hnc, hcm, hs, ht⟩
 ·simp at h1
 injection h1 with h1 _ h2
 injection h1 with h1
 injection h1 with h1
 subst h1 h2
 exact ⟨cur, hh, hb, hnc, hcm, hs, ht⟩
theorem zHb {j : Nat} {y : StpI} {u : Value} (h : W.ownsRow base 48 8 (.slice (some ⟨g, 0, none⟩) n cap) n (l.flatMap StpI.cells)) (hl : l.length = n) (hx : l[k]? = some x) (hj : j < 8) (he : x.cells.set j u = y.cells) :
    (W.setCell ⟨g, k * 8 + j, none⟩ u).ownsRow base 48 8 (.slice (some ⟨g, 0, none⟩) n cap) n ((l.set k y).flatMap StpI.cells) := by
 obtain ⟨cur, hk, hb, hnc, hcm, hs, ht⟩ := zRk h
 refine ⟨by rw [zHy StpI.cells_len, List.length_set, hl], .inr ⟨g, cap, _, rfl, hb, hk.set_ (k * 8 + j) u, hnc, hcm, by simpa using hs, ?_⟩⟩
 simp only [Array.toList_setIfInBounds, List.take_set]
 rw [ht, zGg StpI.cells_len l k j x y u hx hj he]
theorem zUf (h : W.ownsRow base 48 8 (.slice (some ⟨g, 0, none⟩) n cap) n (l.flatMap StpI.cells)) (hl : l.length = n) (hx : l[k]? = some x) : ∀ j u, x.cells[j]? = some u → W.cell? ⟨g, k * 8 + j, none⟩ = some u := by
 have hk : k < n := by have := (List.getElem?_eq_some_iff.1 hx).1; omega
 obtain ⟨b, o, x', e, _, hx', hc⟩ := zCf StpI.cells_len (by omega) (Reads.of_own h) hk hl
 injection e with e
 injection e with e1 e2
 subst e1 e2
 obtain rfl : x = x' := by rw [hx] at hx'; injection hx'
 intro j u hj
 have := hc j u hj
 rwa [Nat.zero_add] at this
theorem zGm {xs : List Value} (h : W.ownsRow base 48 8 (.slice (some ⟨g, 0, none⟩) n cap) n xs) (j : Nat) : W.frozen? ⟨g, j, none⟩ = false := by
 obtain ⟨cur, hk, _⟩ := zRk h
 exact hk.frozen j
end
def wrEnt (W : World) (g k : Nat) (d : StpI) : World := ((W.setCell ⟨g, k * 8, none⟩ (.int .i64 (7 + d.kind % 2))).setCell ⟨g, k * 8 + 7, none⟩ (.int .i64 d.key)).setCell ⟨g, k * 8 + 3, none⟩ (.int .i64 d.count)
def wrAsk (W : World) (g k : Nat) (d : StpI) : World := ((((W.setCell ⟨g, k * 8, none⟩ (.int .i64 (1 + d.kind % 6))).setCell ⟨g, k * 8 + 2, none⟩ (.int .i64 (d.item % 3))).setCell ⟨g, k * 8 + 3, none⟩ (.int .i64 d.count)).setCell ⟨g, k * 8 + 4, none⟩ (.int .i64 d.life)).setCell ⟨g, k * 8 + 5, none⟩ (.int .i64 d.id)
section
variable {W : World} {base g n cap k : Nat} {l : List StpI} {s : StpI}
theorem zCt {l : List StpI} {k : Nat} {s y : StpI} (h : l[k]? = some s) : (l.set k y)[k]? = some y := List.getElem?_set_self (List.getElem?_eq_some_iff.1 h).1
theorem yCw (h : W.ownsRow base 48 8 (.slice (some ⟨g, 0, none⟩) n cap) n (l.flatMap StpI.cells)) (hl : l.length = n) (hx : l[k]? = some s) (hk : s.kind = 7 ∨ s.kind = 8) (d : StpI) :
    (wrEnt W g k d).ownsRow base 48 8 (.slice (some ⟨g, 0, none⟩) n cap) n ((l.set k (zFi s d)).flatMap StpI.cells) := by
 have h1 := zHb (j := 0) (y := { s with kind := 7 + d.kind % 2 }) (u := .int .i64 (7 + d.kind % 2)) h hl hx (by omega) rfl
 have h2 := zHb (j := 7) (y := { s with kind := 7 + d.kind % 2, key := d.key }) (u := .int .i64 d.key) h1 (by rw [List.length_set]; exact hl) (zCt hx) (by omega) rfl
 have h3 := zHb (j := 3) (y := { s with kind := 7 + d.kind % 2, key := d.key, count := d.count }) (u := .int .i64 d.count) h2 (by rw [List.length_set, List.length_set]; exact hl) (zCt (zCt hx)) (by omega) rfl
 rw [List.set_set, List.set_set] at h3
 unfold zFi
 rw [if_pos hk]
 exact h3
theorem yBt (h : W.ownsRow base 48 8 (.slice (some ⟨g, 0, none⟩) n cap) n (l.flatMap StpI.cells)) (hl : l.length = n) (hx : l[k]? = some s) (hk : ¬ (s.kind = 7 ∨ s.kind = 8)) (d : StpI) :
    (wrAsk W g k d).ownsRow base 48 8 (.slice (some ⟨g, 0, none⟩) n cap) n ((l.set k (zFi s d)).flatMap StpI.cells) := by
 have h1 := zHb (j := 0) (y := { s with kind := 1 + d.kind % 6 }) (u := .int .i64 (1 + d.kind % 6)) h hl hx (by omega) rfl
 have h2 := zHb (j := 2) (y := { s with kind := 1 + d.kind % 6, item := d.item % 3 }) (u := .int .i64 (d.item % 3)) h1 (by rw [List.length_set]; exact hl) (zCt hx) (by omega) rfl
 have h3 := zHb (j := 3) (y := { s with kind := 1 + d.kind % 6, item := d.item % 3, count := d.count }) (u := .int .i64 d.count) h2 (by rw [List.length_set, List.length_set]; exact hl) (zCt (zCt hx)) (by omega) rfl
 have h4 := zHb (j := 4) (y := { s with kind := 1 + d.kind % 6, item := d.item % 3, count := d.count, life := d.life }) (u := .int .i64 d.life) h3 (by rw [List.length_set, List.length_set, List.length_set]; exact hl) (zCt (zCt (zCt hx))) (by omega) rfl
 have h5 := zHb (j := 5) (y := { s with kind := 1 + d.kind % 6, item := d.item % 3, count := d.count, life := d.life, id := d.id }) (u := .int .i64 d.id) h4 (by rw [List.length_set, List.length_set, List.length_set, List.length_set]; exact hl) (zCt (zCt (zCt (zCt hx)))) (by omega) rfl
 rw [List.set_set, List.set_set, List.set_set, List.set_set] at h5
 unfold zFi
 rw [if_neg hk]
 exact h5
end
theorem yBb (W : World) (g k : Nat) (d : StpI) : Only (fun x => x = g) W (wrEnt W g k d) := zAg (zAg (zAg (Only.refl _ _) _ _) _ _) _ _
theorem zZr (W : World) (g k : Nat) (d : StpI) : Only (fun x => x = g) W (wrAsk W g k d) := zAg (zAg (zAg (zAg (zAg (Only.refl _ _) _ _) _ _) _ _) _ _) _ _
set_option maxRecDepth 100000 in
set_option maxHeartbeats 4000000 in
theorem zSq (c : Cfg) (A A2 : Option Addr) (n cc n2 cc2 : Nat) (l ds : List StpI) (x B : Nat) (w : World) (hl : l.length = n) (hn : n ≤ 1000) (hr : Reads w B 8 A n (l.flatMap StpI.cells)) (hl2 : ds.length = n2) (hn2 : n2 ≤ maxLen) (hr2 : Reads w B 8 A2 n2 (ds.flatMap StpI.cells))
    (hc : c.ok w B) (hB : B ≤ w.heap.size) (hx : x < 16) (hs : ∀ s ∈ l, (0 ≤ s.who ∧ s.who < 4) ∧ 0 ≤ s.label ∧ s.label < 3) (hls : c.la.zs.length = 3) (hz : ∀ z ∈ c.la.zs, 0 ≤ z ∧ z < 16) :
    Calls Tryz.prog 18 #[c.val, .slice A n cc, .int .i64 x, .slice A2 n2 cc2] w fun e w' => ∃ v, e = .returned v ∧ zFp w' w.heap.size v (zEj c x l ds) ∧ Below w.heap.size w w' := by
 obtain ⟨it, hit, ht0, ht1, ht2⟩ := zKb
 obtain ⟨q, hq⟩ : ∃ p, p = w.heap.size := ⟨_, rfl⟩
 obtain ⟨wx, hwx⟩ : ∃ wx, wx = w.alloc (.cells c.cells.toArray 24) := ⟨_, rfl⟩
 have hbx : Below w.heap.size w wx := by rw [hwx]; exact (Below.refl _ _).alloc (Nat.le_refl _) _
 have kc : Blk wx q 24 c.cells.toArray := by rw [hwx, hq]; exact Blk.new _ _ _
 have hcx := hc.below (hbx.mono hB)
 have hBx : B ≤ wx.heap.size := Nat.le_trans hB hbx.size
 have HPR := hide (fun (s : StpI) (W : World) (hW : Below wx.heap.size wx W) (h : s ∈ l) => zWx c s x B W (hcx.below (hW.mono hBx)) (Nat.le_trans hBx hW.size) hx (hs s h).1 (hs s h).2 hls hz)
 have HP2 := hide (fun a W => zDo a 2 W (by omega))
 have HP3 := hide (fun a W => zDo a 3 W (by omega))
 have HP6 := hide (fun a W => zDo a 6 W (by omega))
 have h1c : ∀ u ∈ l.flatMap StpI.cells, u.oneCell' = true := fun u hu => by
  obtain ⟨s, _, hs⟩ := List.mem_flatMap.1 hu
  unfold StpI.cells at hs
  simp at hs
  rcases hs with rfl | rfl | rfl | rfl | rfl | rfl | rfl | rfl <;> rfl
 have H1C := hide h1c
 have HRD := hide (hr.below (hbx.mono hB))
 have HR2 := hide (hr2.below (hbx.mono hB))
 have HBX := hide hbx
 have HBB := hide hBx
 have HKC := hide kc
 have HL := hide hl
 have HL2 := hide hl2
 have HNIL := hide (World.ownsRow_nil wx wx.heap.size 48 8)
 have HN63 := hide (show 0 + n ≤ maxLen by unfold maxLen; omega)
 have HNB := hide (show (0 + n) * 64 ≤ 140737488355328 by omega)
 have HWX := hide hwx
 have HQ := hide hq
 unfold maxLen at hn2
 unfold Cfg.val
 clear hbx kc hq hwx hl hr hl2 hr2 hc hB hBx hcx h1c hs hls hz
 go_enter Tryz.func18, Tryz.ntmps18
 go_upto_region 1 with fail
 rw [show (#[.int .i64 c.br, .slice c.la.A c.la.n c.la.c, .int .i64 c.tk, .slice c.mi.A c.mi.n c.mi.c, .int .i64 c.cap] : Array Value) = c.cells.toArray from rfl, ← zAa HWX, ← zAa HQ]
 go_wp2_with (first
  | (at_builtin; (refine zAr _ rfl (.const (.slice none 0 0)) (.tmp 12) _ rfl wx.heap.size 48 it _ 8 64 Tryz.underlying25 hit ht0 ht1 ht2 rfl (by omega) (.slice none 0 0) 0 _ rfl (zAa HNIL) B A n cc (l.flatMap StpI.cells) rfl (zAa HRD) (zAa H1C) (zAa HN63) (zAa HNB) (Nat.le_refl _) ?_); intro v2 w2 hown2 hgr2 hat2
     obtain ⟨A2, c2, hv2, _⟩ := zAf hown2
     subst hv2
     rw [Nat.zero_add] at hown2
     have HB2 := hide (zGn hgr2)
     have HO2 := hide hown2
     clear hgr2 hat2 hown2))
 go_loopw [10] (fun i wr => ∃ k : Nat, k ≤ n ∧ k ≤ n2 ∧ i = .int .i64 k ∧ Hid (wr.ownsRow wx.heap.size 48 8 (.slice A2 n c2) n ((zDj c x l ds k).flatMap StpI.cells)) ∧ Hid (Below wx.heap.size wx wr)) (fun i _ => n - (intOf i).toNat)
 case atStart => exact ⟨0, Nat.zero_le _, Nat.zero_le _, rfl, HO2, HB2⟩
 case round =>
  obtain ⟨k, hkn, hkn2, rfl, HO, HBE⟩ := hrel
  by_cases hlt : k < n
  ·by_cases hlt2 : k < n2
   ·have d1 : decide ((k : Int) < (n : Int)) = true := by simp; omega
    have d2 : decide ((k : Int) < (n2 : Int)) = true := by simp; omega
    have hi1 : (k : Int) < (n : Int) := by omega
    have hi2 : (k : Int) < (n2 : Int) := by omega
    obtain ⟨g, cap', hv, hgb, hgl⟩ := (zAa HO).form (by omega)
    injection hv with hv1 hv2 hv3
    subst hv1 hv3
    obtain ⟨s, hs⟩ : ∃ s, l[k]? = some s := ⟨_, List.getElem?_eq_getElem (by rw [zAa HL]; exact hlt)⟩
    have hsk : (zDj c x l ds k)[k]? = some s := by rw [zIn, if_neg (by omega)]; exact hs
    have hol : (zDj c x l ds k).length = n := by rw [zFk]; exact zAa HL
    have hkc := (zAa HKC).below (zAa HBE) (zAa HKC).lt
    have hcell := zUf (zAa HO) hol hsk
    obtain ⟨bd, od, d, hA2, hbd, hd, hcd⟩ := zCf StpI.cells_len (by omega) ((zAa HR2).below ((zAa HBE).mono (zAa HBB))) hlt2 (zAa HL2)
    subst hA2
    have hst : zDj c x l ds (k + 1) = (zDj c x l ds k).set k (zIa c x s d) := by
     rw [zDj, List.getD_eq_getElem?_getD, List.getD_eq_getElem?_getD, hs, hd]
     rfl
    have HST := hide hst
    have HSK := hide hsk
    have HOL := hide hol
    have HHB := hide (And.intro hgb hgl)
    have HCD := hide hcd
    have HBD := hide (show bd < wx.heap.size from Nat.lt_of_lt_of_le hbd (zAa HBB))
    have e0 := fun m : Ext wr => m.cell (show wr.cell? ⟨q, 0, none⟩ = some (.int .i64 c.br) from hkc.cell 0)
    have e1 := fun m : Ext wr => m.cell (show wr.cell? ⟨q, 1, none⟩ = some (.slice c.la.A c.la.n c.la.c) from hkc.cell 1)
    have e2 := fun m : Ext wr => m.cell (show wr.cell? ⟨q, 2, none⟩ = some (.int .i64 c.tk) from hkc.cell 2)
    have e3 := fun m : Ext wr => m.cell (show wr.cell? ⟨q, 3, none⟩ = some (.slice c.mi.A c.mi.n c.mi.c) from hkc.cell 3)
    have e4 := fun m : Ext wr => m.cell (show wr.cell? ⟨q, 4, none⟩ = some (.int .i64 c.cap) from hkc.cell 4)
    have t0 := fun m : Ext wr => m.cell (show wr.cell? ⟨g, k * 8, none⟩ = some (.int .i64 s.kind) from hcell 0 _ rfl)
    have t1 := fun m : Ext wr => m.cell (hcell 1 _ rfl)
    have t2 := fun m : Ext wr => m.cell (hcell 2 _ rfl)
    have t3 := fun m : Ext wr => m.cell (hcell 3 _ rfl)
    have t4 := fun m : Ext wr => m.cell (hcell 4 _ rfl)
    have t5 := fun m : Ext wr => m.cell (hcell 5 _ rfl)
    have t6 := fun m : Ext wr => m.cell (hcell 6 _ rfl)
    have t7 := fun m : Ext wr => m.cell (hcell 7 _ rfl)
    have HPV := hide (fun (W : World) (hW : Below wr.heap.size wr W) => (zAa HPR) s W ((zAa HBE).trans (hW.mono (zAa HBE).size)) (List.mem_of_getElem? hs))
    unfold Cfg.val StpI.val at HPV
    clear hs hsk hol hkc hcell hbd hd hcd hst hgb hgl HPR
    go_upto_region 5 with fail
    refine zBt [0, 1, 2, 3, 4, 5] [6, 7] (.next 6 (.next 7 .done)) (by kernel_rfl) (by kernel_rfl) (by intro c a d v w h; cases d <;> exact h) ?_
    simp only [zAb, List.map_cons, List.map_nil, List.getD_cons_zero, List.getD_cons_succ]
    repeat (go_big_quiet_step (fail))
    refine wpQuiet_nil ?_
    have hd0 : Below wr.heap.size wr wr.drew := (Below.refl _ wr).drew
    generalize wr.drew = w4 at hd0 ⊢
    refine zAc fun K0 hK0 => ?_
    simp only [zAb, List.map_cons, List.map_nil, List.getD_cons_zero, List.getD_cons_succ]
    go_wp2_with fail
    refine (zAa HPV w4 hd0).mono ?_
    rintro _ w5 ⟨rfl, hb5⟩
    have hd5 := hd0.trans (hb5.mono hd0.size)
    clear e0 e1 e2 e3 e4 t0 t1 t2 t3 t4 t5 t6 t7 HPV
    go_wp2_with fail
    refine hK0 _ w5 (fun _ => ⟨⟨_, hd5⟩, rfl⟩) ?_
    clear hK0 K0
    refine zAc fun K0 hK0 => ?_
    simp only [zAb, List.map_cons, List.map_nil, List.getD_cons_zero, List.getD_cons_succ]
    go_wp2_with fail
    refine hK0 _ w5 (fun _ => ⟨⟨_, hd5⟩, rfl⟩) ?_
    clear hK0 K0
    refine zBg ?_
    have HO5 := hide (zAi (zAa HO) hd5)
    have HB5 := hide ((zAa HBE).trans (hd5.mono (zAa HBE).size))
    clear hd0 hb5 hd5
    cases hp : zLr c x s with
    | false =>
     have HN := hide (show zDj c x l ds (k + 1) = zDj c x l ds k by
      rw [zAa HST]
      unfold zIa
      rw [hp, if_neg (by simp)]
      refine List.ext_getElem? fun i => ?_
      rw [List.getElem?_set]
      split
      ·rename_i e
       subst e
       split
       ·exact (zAa HSK).symm
       ·rename_i h; rw [List.getElem?_eq_none (by omega)]
      ·rfl)
     go_wp2_with fail
     go_roundw
     case rel => exact ⟨k + 1, by omega, by omega, by go_num, by rw [zAa HN]; exact HO5, HB5⟩
     case measure => simp [intOf]; omega
    | true =>
     have HN := hide (show zDj c x l ds (k + 1) = (zDj c x l ds k).set k (zFi s d) by
      rw [zAa HST]
      unfold zIa
      rw [hp, if_pos rfl])
     have HCD5 := hide (fun j u (h : d.cells[j]? = some u) => (zAa HB5).cell (p := ⟨bd, od + k * 8 + j, none⟩) (zAa HBD) |>.trans (show wx.cell? ⟨bd, od + k * 8 + j, none⟩ = some u from ((zAa HBE).cell (p := ⟨bd, od + k * 8 + j, none⟩) (zAa HBD)).symm.trans (zAa HCD j u h)))
     have z0 : w5.cell? ⟨bd, od + k * 8, none⟩ = some (.int .i64 d.kind) := (zAa HCD5) 0 _ rfl
     have z1 := (zAa HCD5) 1 _ rfl
     have z2 := (zAa HCD5) 2 _ rfl
     have z3 := (zAa HCD5) 3 _ rfl
     have z4 := (zAa HCD5) 4 _ rfl
     have z5 := (zAa HCD5) 5 _ rfl
     have z6 := (zAa HCD5) 6 _ rfl
     have z7 := (zAa HCD5) 7 _ rfl
     obtain ⟨w6, hw6⟩ : ∃ w6, w6 = w5.alloc (.cells #[.int .i64 d.kind, .int .i64 d.who, .int .i64 d.item, .int .i64 d.count, .int .i64 d.life, .int .i64 d.id, .int .i64 d.label, .int .i64 d.key] 106) := ⟨_, rfl⟩
     obtain ⟨p, hpp⟩ : ∃ p, p = w5.heap.size := ⟨_, rfl⟩
     have hb6 : Below w5.heap.size w5 w6 := by rw [hw6]; exact (Below.refl _ _).alloc (Nat.le_refl _) _
     have k6 : Blk w6 p 106 #[.int .i64 d.kind, .int .i64 d.who, .int .i64 d.item, .int .i64 d.count, .int .i64 d.life, .int .i64 d.id, .int .i64 d.label, .int .i64 d.key] := by rw [hw6, hpp]; exact Blk.new _ _ _
     have HO6 := hide (zAi (zAa HO5) hb6)
     have HB6 := hide ((zAa HB5).trans (hb6.mono (zAa HB5).size))
     have HK6 := hide k6
     have hgp : g ≠ p := by
      obtain ⟨cur, hk, _⟩ := zRk (zAa HO5)
      have := hk.lt
      omega
     have HW6 := hide hw6
     have HPP := hide hpp
     clear hw6 hpp hb6 k6 hp HCD5
     go_upto_region 7 with fail
     rw [← zAa HW6, ← zAa HPP]
     have hc6 := zUf (zAa HO6) (zAa HOL) (zAa HSK)
     have t0 : w6.cell? ⟨g, k * 8, none⟩ = some (.int .i64 s.kind) := hc6 0 _ rfl
     have t2 := hc6 2 _ rfl
     have t3 := hc6 3 _ rfl
     have t4 := hc6 4 _ rfl
     have t5 := hc6 5 _ rfl
     have t7 := hc6 7 _ rfl
     have f0 : w6.frozen? ⟨g, k * 8, none⟩ = false := zGm (zAa HO6) (k * 8)
     have f2 := zGm (zAa HO6) (k * 8 + 2)
     have f3 := zGm (zAa HO6) (k * 8 + 3)
     have f4 := zGm (zAa HO6) (k * 8 + 4)
     have f5 := zGm (zAa HO6) (k * 8 + 5)
     have f7 := zGm (zAa HO6) (k * 8 + 7)
     have y0 := (zAa HK6).cell 0
     have y2 := (zAa HK6).cell 2
     have y3 := (zAa HK6).cell 3
     have y4 := (zAa HK6).cell 4
     have y5 := (zAa HK6).cell 5
     have y7 := (zAa HK6).cell 7
     have hpg : p ≠ g := fun e => hgp e.symm
     have hgb := (zAa HHB).1
     have hsz6 := (zAa HB6).size
     clear z0 z1 z2 z3 z4 z5 z6 z7 hc6
     by_cases h78 : s.kind = 7 ∨ s.kind = 8
     ·have HWO := hide (yCw (zAa HO6) (zAa HOL) (zAa HSK) h78 d)
      have HWB := hide (Below.only (zAa HB6) (yBb w6 g k d) (fun x hx e => by omega) hsz6)
      obtain ⟨m2, hm2⟩ : ∃ m2, m2 = d.kind % 2 := ⟨_, rfl⟩
      have hw2 : wrap64 (7 + m2) = 7 + m2 := by unfold wrap64; omega
      have HPK := hide (fun W => (zAa HP2) d.kind W)
      rw [← hm2] at HPK
      have HM := hide hm2
      clear hm2 hgb hsz6
      rcases h78 with h | h
      ·have g7 : (s.kind == 7) = true := by simp [h]
       clear h
       go_wp2_with fail
       refine (zAa HPK _).mono ?_
       rintro _ _ ⟨rfl, rfl⟩
       go_wp2_with fail
       go_roundw
       case rel =>
        have hm := zAa HM
        subst hm
        exact ⟨k + 1, by omega, by omega, by go_num, by rw [zAa HN]; exact HWO, HWB⟩
       case measure => simp [intOf]; omega
      ·have g7 : (s.kind == 7) = false := by simp [h]
       have g8 : (s.kind == 8) = true := by simp [h]
       clear h
       go_wp2_with fail
       refine (zAa HPK _).mono ?_
       rintro _ _ ⟨rfl, rfl⟩
       go_wp2_with fail
       go_roundw
       case rel =>
        have hm := zAa HM
        subst hm
        exact ⟨k + 1, by omega, by omega, by go_num, by rw [zAa HN]; exact HWO, HWB⟩
       case measure => simp [intOf]; omega
     ·have HWO := hide (yBt (zAa HO6) (zAa HOL) (zAa HSK) h78 d)
      have HWB := hide (Below.only (zAa HB6) (zZr w6 g k d) (fun x hx e => by omega) hsz6)
      obtain ⟨m6, hm6⟩ : ∃ m6, m6 = d.kind % 6 := ⟨_, rfl⟩
      have hw6 : wrap64 (1 + m6) = 1 + m6 := by unfold wrap64; omega
      obtain ⟨m3, hm3⟩ : ∃ m3, m3 = d.item % 3 := ⟨_, rfl⟩
      have HPK := hide (fun W => (zAa HP6) d.kind W)
      have HPI := hide (fun W => (zAa HP3) d.item W)
      rw [← hm6] at HPK
      rw [← hm3] at HPI
      have HM := hide hm6
      have HM3 := hide hm3
      have g7 : (s.kind == 7) = false := by simp; omega
      have g8 : (s.kind == 8) = false := by simp; omega
      clear hm6 hm3 hgb hsz6 h78
      go_wp2_with fail
      refine (zAa HPK _).mono ?_
      rintro _ _ ⟨rfl, rfl⟩
      go_wp2_with fail
      refine (zAa HPI _).mono ?_
      rintro _ _ ⟨rfl, rfl⟩
      go_wp2_with fail
      go_roundw
      case rel =>
       have hm := zAa HM
       subst hm
       have hm3 := zAa HM3
       subst hm3
       exact ⟨k + 1, by omega, by omega, by go_num, by rw [zAa HN]; exact HWO, HWB⟩
      case measure => simp [intOf]; omega
   ·obtain rfl : k = n2 := by omega
    have d1 : decide ((k : Int) < (n : Int)) = true := by simp; omega
    have d2 : decide ((k : Int) < (k : Int)) = false := by simp
    have HF := hide (show zDj c x l ds k = zEj c x l ds by unfold zEj; rw [zAa HL, zAa HL2, Nat.min_eq_right (by omega)])
    go_wp2_with fail
    go_ret
    refine ⟨_, rfl, ?_, (zAa HBX).trans ((zAa HBE).mono (zAa HBX).size)⟩
    unfold zFp
    rw [← zAa HF, zFk, zAa HL]
    exact zBr (zAa HO) (zAa HBX).size
  ·obtain rfl : k = n := by omega
   have d1 : decide ((k : Int) < (k : Int)) = false := by simp
   have HF := hide (show zDj c x l ds k = zEj c x l ds by unfold zEj; rw [zAa HL, zAa HL2, Nat.min_eq_left (by omega)])
   go_wp2_with fail
   go_ret
   refine ⟨_, rfl, ?_, (zAa HBX).trans ((zAa HBE).mono (zAa HBX).size)⟩
   unfold zFp
   rw [← zAa HF, zFk, zAa HL]
   exact zBr (zAa HO) (zAa HBX).size
end
section
open Go.RowKit
inductive Tag where
 | no
 | con
 | sh (i : Nat)
 | ask (i : Nat)
 | gn (i : Nat)
 | str (i : Nat)
 | bk (j : Nat)
 | off
 | lst
deriving DecidableEq
structure BrA where
 b : Nat
 s : Nat
 a : Nat
 g : Nat
 t : Nat
structure Lay where
 hb : Nat
 bb : Nat
 bc : Nat
 kb : Nat
 kc : Nat
 og : Nat
 ob : Nat
 lb : Nat
 br : Nat → BrA
 bg : Nat → Nat
structure ConAt (w : World) (c : Cfg) (y : Lay) (own : Nat → Prop) : Prop where
 blk : Blk w y.hb 72 #[.int .i64 c.br, .slice c.la.A c.la.n c.la.c, .int .i64 c.tk, .slice c.mi.A c.mi.n c.mi.c, .int .i64 c.cap, .slice (some ⟨y.bb, 0, none⟩) c.n y.bc, .slice (some ⟨y.kb, 0, none⟩) c.m y.kc, .pointer (some ⟨y.og, 0, none⟩), .map (some y.lb)]
 row : ∃ cs, Blk w y.bb 76 cs ∧ ∀ i, i < c.n → cs[i]? = some (.pointer (some ⟨(y.br i).b, 0, none⟩))
 bks : ∃ cs, Blk w y.kb 73 cs ∧ ∀ j, j < c.m → cs[j]? = some (.pointer (some ⟨y.bg j, 0, none⟩))
 brs : ∀ i, i < c.n → Blk w (y.br i).b 81 #[.slice (some ⟨(y.br i).s, 0, none⟩) c.m c.m, .slice (some ⟨(y.br i).a, 0, none⟩) c.m c.m, .slice (some ⟨(y.br i).g, 0, none⟩) c.m c.m, .slice (some ⟨(y.br i).t, 0, none⟩) c.ln c.ln]
 o1 : own y.hb
 o2 : own y.bb
 o3 : own y.kb
 o4 : ∀ i, i < c.n → own (y.br i).b
structure ShRow (w : World) (base g m : Nat) (f : Nat → Shf) (own : Nat → Prop) : Prop where
 at_ : ∃ cs, ∃ vs : Nat → Value, (∀ k, k < m → ShAt w base g (k * 4) cs (f k) (vs k) ∧ ∀ b, (vs k).ownBlock = some b → own b) ∧ ∀ k k', k < m → k' < m → k ≠ k' → ∀ b, (vs k).ownBlock = some b → (vs k').ownBlock ≠ some b
 o : own g
structure NumRow (w : World) (base g : Nat) (zs : List Int) (own : Nat → Prop) : Prop where
 row : IRow w g zs []
 low : base ≤ g
 o : own g
structure StRow (w : World) (base g : Nat) (q : List (List Ent)) (own : Nat → Prop) : Prop where
 at_ : ∃ SS : List EnR, StoreAt w base g SS ∧ SS.map EnR.es = q ∧ ∀ r ∈ SS, ∀ b, r.val.ownBlock = some b → own b
 o : own g
structure BkRow (w : World) (base g nb : Nat) (most ticks : Int) (s : BkS) (own : Nat → Prop) : Prop where
 at_ : ∃ p : BkL, p.g = g ∧ BkAt w base nb p most ticks s ∧ ∀ k, p.has k → own k
structure OfRow (w : World) (base g b : Nat) (l : List PoD) (top : Int → Int → Int) (K : Nat) (own : Nat → Prop) : Prop where
 at_ : ∃ v ps m, OfAt w base g b v ps m top ∧ m ≤ K ∧ ps.map (·.d) = l ∧ (∀ p ∈ ps, p.n ≤ 1000000 ∧ ∀ k, (Value.slice p.A p.n p.c).ownBlock = some k → own k) ∧ ∀ k, v.ownBlock = some k → own k
 o1 : own g
 o2 : own b
structure LsRow (w : World) (b : Nat) (lost : Int → Bool) (K : Nat) (own : Nat → Prop) : Prop where
 at_ : ∃ m, LostMap w b m lost ∧ m ≤ K
 o : own b
section
variable {w w' : World} {base : Nat} {own own' D : Nat → Prop}
theorem ConAt.only {c : Cfg} {y : Lay} (h : ConAt w c y own) (ho : Only D w w') (hD : ∀ k, k < w.heap.size → own k → ¬ D k) (hw : ∀ k, k < w.heap.size → own k → own' k) : ConAt w' c y own' := by
 obtain ⟨h1, ⟨cs, h2, h3⟩, ⟨ds, h4, h5⟩, h6, o1, o2, o3, o4⟩ := h
 exact ⟨h1.only ho (hD _ h1.lt o1), ⟨cs, h2.only ho (hD _ h2.lt o2), h3⟩, ⟨ds, h4.only ho (hD _ h4.lt o3), h5⟩, fun i hi => (h6 i hi).only ho (hD _ (h6 i hi).lt (o4 i hi)), hw _ h1.lt o1, hw _ h2.lt o2, hw _ h4.lt o3, fun i hi => hw _ (h6 i hi).lt (o4 i hi)⟩
theorem ShRow.only {g m : Nat} {f : Nat → Shf} (h : ShRow w base g m f own) (hm : 0 < m) (ho : Only D w w') (hD : ∀ k, k < w.heap.size → own k → ¬ D k) (hw : ∀ k, k < w.heap.size → own k → own' k) : ShRow w' base g m f own' := by
 obtain ⟨⟨cs, vs, h1, h2⟩, o⟩ := h
 have hg := (h1 0 hm).1.blk.lt
 refine ⟨⟨cs, vs, fun k hk => ?_, h2⟩, hw _ hg o⟩
 obtain ⟨h3, h4⟩ := h1 k hk
 exact ⟨h3.only ho (hD _ hg o) (fun b hb => hD _ (h3.own.lt b hb).2 (h4 b hb)), fun b hb => hw _ (h3.own.lt b hb).2 (h4 b hb)⟩
theorem NumRow.only {g : Nat} {zs : List Int} (h : NumRow w base g zs own) (ho : Only D w w') (hD : ∀ k, k < w.heap.size → own k → ¬ D k) (hw : ∀ k, k < w.heap.size → own k → own' k) : NumRow w' base g zs own' :=
 ⟨Blk.only h.row ho (hD _ (Blk.lt h.row) h.o), h.low, hw _ (Blk.lt h.row) h.o⟩
theorem StRow.only {g : Nat} {q : List (List Ent)} (h : StRow w base g q own) (ho : Only D w w') (hD : ∀ k, k < w.heap.size → own k → ¬ D k) (hw : ∀ k, k < w.heap.size → own k → own' k) : StRow w' base g q own' := by
 obtain ⟨⟨SS, h1, h2, h3⟩, o⟩ := h
 exact ⟨⟨SS, h1.only ho (hD _ h1.blk.lt o) (fun r hr b hb => hD _ ((h1.rows r hr).lt b hb).2 (h3 r hr b hb)), h2, fun r hr b hb => hw _ ((h1.rows r hr).lt b hb).2 (h3 r hr b hb)⟩, hw _ h1.blk.lt o⟩
theorem BkRow.only {g nb : Nat} {most ticks : Int} {s : BkS} (h : BkRow w base g nb most ticks s own) (ho : Only D w w') (hD : ∀ k, k < w.heap.size → own k → ¬ D k) (hw : ∀ k, k < w.heap.size → own k → own' k) : BkRow w' base g nb most ticks s own' := by
 obtain ⟨p, h1, h2, h3⟩ := h.at_
 exact ⟨⟨p, h1, h2.only ho (fun k hk => hD _ (h2.lt k hk) (h3 k hk)), fun k hk => hw _ (h2.lt k hk) (h3 k hk)⟩⟩
theorem OfRow.only {g b K : Nat} {l : List PoD} {top : Int → Int → Int} (h : OfRow w base g b l top K own) (ho : Only D w w') (hD : ∀ k, k < w.heap.size → own k → ¬ D k) (hw : ∀ k, k < w.heap.size → own k → own' k) : OfRow w' base g b l top K own' := by
 obtain ⟨⟨v, ps, m, h1, h2, h3, h4, h5⟩, o1, o2⟩ := h
 exact ⟨⟨v, ps, m, h1.only ho (hD _ h1.blk.lt o1) (hD _ h1.map.lt o2) (fun k hk => hD _ (h1.own.lt k hk).2 (h5 k hk)) (fun p hp k hk => hD _ ((h1.rows p hp).lt k hk).2 ((h4 p hp).2 k hk)), h2, h3,
  fun p hp => ⟨(h4 p hp).1, fun k hk => hw _ ((h1.rows p hp).lt k hk).2 ((h4 p hp).2 k hk)⟩, fun k hk => hw _ (h1.own.lt k hk).2 (h5 k hk)⟩, hw _ h1.blk.lt o1, hw _ h1.map.lt o2⟩
theorem LsRow.only {b K : Nat} {lost : Int → Bool} (h : LsRow w b lost K own) (ho : Only D w w') (hD : ∀ k, k < w.heap.size → own k → ¬ D k) (hw : ∀ k, k < w.heap.size → own k → own' k) : LsRow w' b lost K own' := by
 obtain ⟨⟨m, h1, h2⟩, o⟩ := h
 exact ⟨⟨m, h1.only ho (hD _ h1.lt o), h2⟩, hw _ h1.lt o⟩
end
def Pc (c : Cfg) (y : Lay) (S : WS) (K base : Nat) : Tag → World → (Nat → Prop) → Prop
 | .no, _, _ => True
 | .con, w, own => ConAt w c y own
 | .sh i, w, own => i < c.n → ShRow w base (y.br i).s c.m (S.sh i) own
 | .ask i, w, own => i < c.n → NumRow w base (y.br i).a (S.ask i) own
 | .gn i, w, own => i < c.n → NumRow w base (y.br i).g (S.gn i) own
 | .str i, w, own => i < c.n → StRow w base (y.br i).t (S.st i) own
 | .bk j, w, own => j < c.m → BkRow w base (y.bg j) c.n c.cap c.tk (S.bk j) own
 | .off, w, own => OfRow w base y.og y.ob S.lts S.top K own
 | .lst, w, own => LsRow w y.lb S.lost K own
theorem Pc.only {c : Cfg} {y : Lay} {S : WS} {K base : Nat} {w w' : World} {own own' D : Nat → Prop} (hm : 0 < c.m) (t : Tag) (h : Pc c y S K base t w own) (ho : Only D w w') (hD : ∀ k, k < w.heap.size → own k → ¬ D k) (hw : ∀ k, k < w.heap.size → own k → own' k) : Pc c y S K base t w' own' := by
 cases t with
 | no => trivial
 | con => exact ConAt.only h ho hD hw
 | sh i => exact fun hi => (h hi).only hm ho hD hw
 | ask i => exact fun hi => (h hi).only ho hD hw
 | gn i => exact fun hi => (h hi).only ho hD hw
 | str i => exact fun hi => (h hi).only ho hD hw
 | bk j => exact fun hj => (h hj).only ho hD hw
 | off => exact OfRow.only h ho hD hw
 | lst => exact LsRow.only h ho hD hw
structure PW (w : World) (c : Cfg) (y : Lay) (S : WS) (K base : Nat) (ow : Nat → Tag) : Prop where
 pc : ∀ t, Pc c y S K base t w (fun k => ow k = t)
 low : ∀ k, ow k ≠ .no → base ≤ k
 fresh : ∀ k, w.heap.size ≤ k → ow k = .no
 cfg : c.ok w base
 may : zAh c = true
 bw : base ≤ w.heap.size
theorem zAj {c : Cfg} (h : zAh c = true) : (c.br = c.n ∧ 1 ≤ c.n ∧ c.n ≤ 8) ∧ c.ln ≤ 4 ∧ (1 ≤ c.tk ∧ c.tk ≤ 8) ∧ (1 ≤ c.m ∧ c.m ≤ 3) ∧ (0 ≤ c.cap ∧ c.cap ≤ 1048576) ∧ (∀ z ∈ c.la.zs, 0 ≤ z ∧ z < 2 ^ c.n) ∧ ∀ z ∈ c.mi.zs, 0 ≤ z ∧ z ≤ 1048576 := by
 unfold zAh inB at h
 simp only [Bool.and_eq_true, decide_eq_true_eq, Bool.not_eq_true', List.any_eq_false] at h
 obtain ⟨⟨⟨⟨⟨⟨h1, h2⟩, h3⟩, h4⟩, h5⟩, h6⟩, h7⟩ := h
 refine ⟨by unfold Cfg.n; omega, h2, h3, by unfold Cfg.m; omega, h5, fun z hz => ?_, fun z hz => ?_⟩
 ·have := h6 z hz
  unfold zFb at this
  simp only [Bool.or_eq_true, decide_eq_true_eq, not_or] at this
  unfold Cfg.n
  omega
 ·have := h7 z hz
  unfold badN at this
  simp only [Bool.or_eq_true, decide_eq_true_eq, not_or] at this
  omega
section
variable {w w' : World} {c : Cfg} {y : Lay} {S S' : WS} {K K' base : Nat} {ow ow' : Nat → Tag} {D : Nat → Prop}
theorem PW.m0 (h : PW w c y S K base ow) : 0 < c.m := (zAj h.may).2.2.2.1.1
theorem PW.far (h : PW w c y S K base ow) (ho : Only D w w') (hD : ∀ k, k < w.heap.size → D k → ow k = .no) (hDb : ∀ k, k < base → ¬ D k) : PW w' c y S K base ow := by
 refine ⟨fun t => ?_, h.low, fun k hk => h.fresh k (Nat.le_trans ho.size hk), h.cfg.below (ho.to_below (fun x hx _ => hDb x hx) h.bw), h.may, Nat.le_trans h.bw ho.size⟩
 cases t with
 | no => trivial
 | _ => exact Pc.only h.m0 _ (h.pc _) ho (fun k hk hk2 hk3 => by have := hD k hk hk3; rw [this] at hk2; cases hk2) (fun k _ hk => hk)
theorem PW.calm (h : PW w c y S K base ow) (hb : Below w.heap.size w w') : PW w' c y S K base ow :=
 h.far (D := fun k => w.heap.size ≤ k) (Only.of_below hb fun _ _ h => h) (fun k hk hk2 => by omega) (fun k hk hk2 => by have := h.bw; omega)
def zFt (ow : Nat → Tag) (w w' : World) (t : Tag) (F : Nat → Bool) (k : Nat) : Tag := if k < w.heap.size then ow k else if k < w'.heap.size ∧ F k = true then t else .no
theorem PW.turn (t : Tag) (F : Nat → Bool) (h : PW w c y S K base ow) (ht : t ≠ .no) (ho : Only D w w') (hD : ∀ k, k < w.heap.size → D k → ow k = t) (hS : ∀ u, u ≠ t → ∀ W own, Pc c y S K base u W own → Pc c y S' K' base u W own)
    (hn : Pc c y S' K' base t w' (fun k => zFt ow w w' t F k = t)) : PW w' c y S' K' base (zFt ow w w' t F) := by
 refine ⟨fun u => ?_, fun k hk => ?_, fun k hk => ?_, h.cfg.below (ho.to_below (fun x hx hx2 hx3 => ?_) h.bw), h.may, Nat.le_trans h.bw ho.size⟩
 ·by_cases hu : u = t
  ·subst hu; exact hn
  ·refine hS u hu _ _ (Pc.only h.m0 u (h.pc u) ho (fun k hk h1 h2 => hu ?_) (fun k hk h1 => ?_))
   ·rw [← h1, hD k hk h2]
   ·show zFt ow w w' t F k = u
    unfold zFt
    rw [if_pos hk]
    exact h1
 ·unfold zFt at hk
  split at hk
  ·exact h.low k hk
  ·have := h.bw; omega
 ·unfold zFt
  have := ho.size
  rw [if_neg (by omega), if_neg (by omega)]
 ·have := h.low x (by rw [hD x hx2 hx3]; exact ht)
  omega
structure Kept (w w' : World) (ow ow' : Nat → Tag) : Prop where
 only : Only (fun k => ow k ≠ .no) w w'
 old : ∀ k, k < w.heap.size → ow' k = ow k
theorem Kept.refl (w : World) (ow : Nat → Tag) : Kept w w ow ow := ⟨Only.refl _ _, fun _ _ => rfl⟩
theorem Kept.trans {w'' : World} {ow'' : Nat → Tag} (h : Kept w w' ow ow') (k : Kept w' w'' ow' ow'') : Kept w w'' ow ow'' :=
 ⟨h.only.trans k.only (fun x hx hx2 => by rw [← h.old x hx]; exact hx2), fun x hx => (k.old x (Nat.lt_of_lt_of_le hx h.only.size)).trans (h.old x hx)⟩
theorem Kept.calm (hb : Below w.heap.size w w') : Kept w w' ow ow := ⟨Only.of_below hb (fun x h1 h2 => by omega), fun _ _ => rfl⟩
theorem Kept.turn (t : Tag) (F : Nat → Bool) (ht : t ≠ .no) (ho : Only D w w') (hD : ∀ k, k < w.heap.size → D k → ow k = t) : Kept w w' ow (zFt ow w w' t F) :=
 ⟨ho.mono fun x hx hd => by rw [hD x hx hd]; exact ht, fun k hk => by unfold zFt; rw [if_pos hk]⟩
theorem Kept.below (h : Kept w w' ow ow') (hw : PW w c y S K base ow) : Below base w w' := h.only.to_below (fun x hx hx2 hx3 => by have := hw.low x hx3; omega) hw.bw
theorem Kept.own (h : Kept w w' ow ow') {b e size n : Nat} {v : Value} {xs : List Value} (hv : w.ownsRow b e size v n xs) (hn : ∀ k, v.ownBlock = some k → ow k = .no) : w'.ownsRow b e size v n xs :=
 zAk hv h.only (fun k hk hk2 => hk2 (hn k hk))
theorem Kept.blk (h : Kept w w' ow ow') {g : Nat} {t : TypeId} {cs : Array Value} (hv : Blk w g t cs) (hn : ow g = .no) : Blk w' g t cs := hv.only h.only (fun hk2 => hk2 hn)
end
end
end Go.Proofs.YtbolcebmbpepdaaGreatDoor
