/- Contracts and plain facts, set together by program out of smaller texts. Conditions: none beyond what each theorem states. -/
import Derived.Test.YtbolcebmbpepdaaGreatDoorM42
import Derived.Test.YtbolcebmbpepdaaGreatDoorM43
import Derived.Test.YtbolcebmbpepdaaGreatDoorM07
import Derived.Test.YtbolcebmbpepdaaGreatDoorM15
namespace Go.Proofs.YtbolcebmbpepdaaGreatDoor
set_option linter.unusedVariables false
section
open Go.RowKit
theorem pow_lt16 {i : Nat} (h : i < 4) : 2 ^ i < 16 ∧ (2 ^ i).testBit i = true ∧ wrap64 ((2 : Int) ^ i) = ((2 ^ i : Nat) : Int) := by
 obtain h | h | h | h : i = 0 ∨ i = 1 ∨ i = 2 ∨ i = 3 := by omega
 all_goals subst h; decide +kernel
theorem yCy {c : Cfg} {x : Nat} {S S' : WS} {i : Nat} (h : Rel c x S S') (hi : x.testBit i = true) : zEt c S i = zEt c S' i := by
 unfold zEt
 refine List.map_congr_left fun k _ => ?_
 rw [h.ask i hi, h.sh i k hi]
theorem zVm {w : World} {B i k n m : Nat} {v : Value} {c : Cfg} {S : WS} (h : Pu2 w B v (zLc c S)) (hn : c.n = n) (hm : c.m = m) (hi : i < n) (hk : k < m) :
    ∃ b o cc b2 o2 c2, v = .slice (some ⟨b, o, none⟩) n cc ∧ b < B ∧ w.cell? ⟨b, o + i, none⟩ = some (.slice (some ⟨b2, o2, none⟩) m c2) ∧ b2 < B ∧ ∀ (k : Nat) (p : PurD), (zEt c S i)[k]? = some p → ∀ j u, p.cells[j]? = some u → w.cell? ⟨b2, o2 + k * 6 + j, none⟩ = some u := by
 obtain ⟨A, cc, rs, rfl, h1, h2, h3⟩ := h
 have hl : rs.length = n := by have := congrArg List.length h3; unfold zLc at this; rw [List.length_map, List.length_map, List.length_range] at this; omega
 rw [hl] at h1 ⊢
 obtain ⟨b, o, r, rfl, hb, hr, hc⟩ := zMq PuR.val h1 hi
 have hrp : r.ps = zEt c S i := by
  have e1 : (rs.map (·.ps))[i]? = some r.ps := by rw [List.getElem?_map, hr]; rfl
  rw [h3] at e1
  unfold zLc at e1
  rw [List.getElem?_map, List.getElem?_range (by omega)] at e1
  injection e1 with e1
  exact e1.symm
 have hrl : r.ps.length = m := by rw [hrp]; unfold zEt; rw [List.length_map, List.length_range, hm]
 have hrr := h2 r (List.mem_of_getElem? hr)
 rw [hrl] at hrr
 obtain ⟨b2, o2, p, hA, hb2, hp, hcp⟩ := zCf PurD.cells_len (by omega) hrr hk hrl
 refine ⟨b, o, cc, b2, o2, r.c, rfl, hb, ?_, hb2, fun k' p' hp' j u hj => ?_⟩
 ·rw [hc]
  unfold PuR.val
  rw [hA, hrl]
 ·have hk' : k' < m := by have := (List.getElem?_eq_some_iff.1 hp').1; rw [← hrp, hrl] at this; exact this
  obtain ⟨b3, o3, p3, hA3, hb3, hp3, hcp3⟩ := zCf PurD.cells_len (by omega) hrr hk' hrl
  rw [hA] at hA3
  injection hA3 with e
  injection e with e1 e2
  subst e1 e2
  rw [hrp, hp'] at hp3
  injection hp3 with hp3
  subst hp3
  exact hcp3 j u hj
set_option maxRecDepth 100000 in
set_option maxHeartbeats 4000000 in
theorem zVf (A A1 A2 : Option Addr) (n cc n1 cc1 n2 cc2 : Nat) (zs : List Int) (ds es : List StpI) (ticks minted most who : Int) (B : Nat) (w : World) (hl : zs.length = n) (hm : n ≤ maxLen) (hr : Reads w B 1 A n (zs.map (.int .i64)))
    (hl1 : ds.length = n1) (hm1 : n1 ≤ maxLen) (hr1 : Reads w B 8 A1 n1 (ds.flatMap StpI.cells)) (hl2 : es.length = n2) (hm2 : n2 ≤ maxLen) (hr2 : Reads w B 8 A2 n2 (es.flatMap StpI.cells)) (hwe : ∀ s ∈ es, zFm s)
    (hB : B ≤ w.heap.size) (hT : OrdT w) (hg : 0 < w.heap.size) :
    Calls Tryz.prog 6 #[.slice A n cc, .int .i64 ticks, .int .i64 minted, .int .i64 most, .slice A1 n1 cc1, .int .i64 who, .slice A2 n2 cc2] w fun e w' => e = .returned (.bool true) ∧ Below w.heap.size w w' := by
 have HCF := hide (zVw A n cc zs ticks minted most B w hl hm hr hB)
 have HR1 := hide hr1
 have HR2 := hide hr2
 have HL2 := hide hl2
 have HWE := hide hwe
 have HBB := hide hB
 have HP4 := hide (fun a W => zDo a 4 W (by omega))
 have HTG := hide (And.intro hT hg)
 obtain ⟨i, hi, hi4⟩ : ∃ i : Nat, (i : Int) = who % 4 ∧ i < 4 := ⟨(who % 4).toNat, by omega, by omega⟩
 obtain ⟨x, hx⟩ : ∃ x, x = 2 ^ i := ⟨_, rfl⟩
 obtain ⟨hx16, hxi, hsh⟩ := pow_lt16 hi4
 rw [← hx] at hx16 hxi hsh
 have HI := hide hi
 have HXI := hide hxi
 have HM2 := hide hm2
 clear hi hx hxi hT hg hr hr2 hl hm hwe hl2 hm2
 go_enter Tryz.func6, Tryz.ntmps6
 go_wp2_with fail
 refine (zAa HCF).mono ?_
 rintro _ w1 ⟨c, g, h, rfl, hcf, hb1⟩
 have HC1 := hide hcf
 have HB1 := hide hb1
 clear hcf hb1 HCF
 unfold Cfg.val
 go_upto_region 2 with fail
 rw [show (#[.int .i64 c.br, .slice c.la.A c.la.n c.la.c, .int .i64 c.tk, .slice c.mi.A c.mi.n c.mi.c, .int .i64 c.cap] : Array Value) = c.cells.toArray from rfl]
 obtain ⟨wc, hwc⟩ : ∃ wc, wc = w1.alloc (.cells c.cells.toArray 24) := ⟨_, rfl⟩
 obtain ⟨q, hq⟩ : ∃ q, q = w1.heap.size := ⟨_, rfl⟩
 have hbc : Below w1.heap.size w1 wc := by rw [hwc]; exact (Below.refl _ _).alloc (Nat.le_refl _) _
 have kc : Blk wc q 24 c.cells.toArray := by rw [hwc, hq]; exact Blk.new _ _ _
 have HD := hide (show FirstAt w wc q c g h (zEu zs) ticks minted most from ⟨(zAa HB1).trans (hbc.mono (zAa HB1).size), kc, (zAa HC1).calm hbc⟩)
 rw [← hwc, ← hq]
 clear hwc hq hbc kc HB1 HC1
 go_wp2_with fail
 refine (zAa HP4 _ _).mono ?_
 rintro _ _ ⟨rfl, rfl⟩
 rw [← zAa HI]
 have HSO := hide (zXd A1 n1 cc1 120 ds B wc hl1 hm1 (by omega) ((zAa HR1).below ((zAa HD).bel.mono (zAa HBB))) (Nat.le_trans (zAa HBB) (zAa HD).bel.size))
 obtain ⟨l4, hl4⟩ : ∃ l4, l4 = zJs ds 120 := ⟨_, rfl⟩
 rw [← hl4] at HSO
 have hlen4 : l4.length ≤ 120 := by rw [hl4]; unfold zJs; rw [zFh]; omega
 have hok4 : ∀ s ∈ l4, (0 ≤ s.id ∧ s.id ≤ 5000) ∧ (0 ≤ s.who ∧ s.who < 4) ∧ 0 ≤ s.label ∧ s.label < 3 := by rw [hl4]; exact zQc ds _ (by omega)
 have HOK := hide hok4
 clear hl1 hm1 hl4 HR1 hok4
 go_wp2_with fail
 refine (zAa HSO).mono ?_
 rintro _ w2 ⟨v2, rfl, ho2, hb2⟩
 obtain ⟨A5, c5, rfl, _⟩ := zAf ho2
 unfold zFp at ho2
 obtain ⟨k, hk⟩ : ∃ k, k = l4.length := ⟨_, rfl⟩
 rw [← hk] at ho2 hlen4 ⊢
 have hD := (zAa HD).below hb2
 have hls3 : (zEu zs).length = 3 := zMy _ _
 obtain ⟨hcok, hcf⟩ := hD.cf.ok hls3 (zMn zs)
 have hzs : c.la.zs = zEu zs := by rw [hD.cf.la]
 have hn4 : c.n = 4 := by unfold Cfg.n; rw [hD.cf.br]; rfl
 have hm2 : c.m = 2 := by unfold Cfg.m; rw [hD.cf.mi]; rfl
 obtain ⟨hT, hg0⟩ := zAa HTG
 have hTr : OrdT w2 := fun j hj => (hD.bel.cell (p := ⟨_, j, none⟩) hg0).trans (hT j hj)
 have hgr : 0 < w2.heap.size := Nat.lt_of_lt_of_le hg0 hD.bel.size
 obtain ⟨b2, hb2e⟩ : ∃ b2, b2 = w2.heap.size := ⟨_, rfl⟩
 have HB2 := hide hb2e
 have HTGR := hide (And.intro hTr hgr)
 have hwf4 : ∀ s ∈ l4, zFm s := fun s hs => WalkArith.wf_i64 (by have := zAa HOK s hs; omega)
 have HSEEN := hide (fun (A : Option Addr) (cc : Nat) (ss : List StpI) (W : World) (hW : Below b2 w2 W) (hl : ss.length = k) (hr : Reads W W.heap.size 8 A k (ss.flatMap StpI.cells)) (hwf : ∀ s ∈ ss, zFm s) =>
  seen_any c A k cc ss x W.heap.size W hl (by omega) hr hwf ((hcok.below (by rw [← hb2e]; exact hW)).more (by rw [hb2e] at hW; exact hW.size)) hcf (Nat.le_refl _) (fun j hj => (hW.cell (p := ⟨_, j, none⟩) (by rw [hb2e]; exact hgr)).trans (hTr j hj)) (Nat.lt_of_lt_of_le hgr (by rw [hb2e] at hW; exact hW.size)) hx16 (by rw [hD.cf.br]; exact hx16))
 have HEND := hide (fun (A : Option Addr) (cc : Nat) (ss : List StpI) (W : World) (hW : Below b2 w2 W) (hl : ss.length = k) (hr : Reads W W.heap.size 8 A k (ss.flatMap StpI.cells)) (hwf : ∀ s ∈ ss, zFm s) =>
  show Calls Tryz.prog 10 #[c.val, .slice A k cc] W (fun e w' => ∃ A n c1 u v, e = .returned (.tuple #[.slice A n c1, u, v, .int .i64 0]) ∧ Pu2 w' w'.heap.size u (zLc c (runW c ss (WS.new c)).2) ∧ (∃ A' c', v = .slice A' 4 c') ∧ Below W.heap.size W w') from
  (zUr (w := W) (c := c) A k cc ss W.heap.size hl (by unfold maxLen; omega) hr hwf ((hcok.below (by rw [← hb2e]; exact hW)).more (by rw [hb2e] at hW; exact hW.size)) (Nat.le_refl _) (fun j hj => (hW.cell (p := ⟨_, j, none⟩) (by rw [hb2e]; exact hgr)).trans (hTr j hj)) (Nat.lt_of_lt_of_le hgr (by rw [hb2e] at hW; exact hW.size))).mono (by
   rintro e w' (⟨h, _⟩ | ⟨_, h, _⟩ | ⟨_, _, A, n, c1, u, v, rfl, _, _, hp, hs, hb⟩)
   ·rw [hcf] at h; cases h
   ·omega
   ·obtain ⟨A', c', ts, rfl, _, _, ht⟩ := hs
    have htl : ts.length = 4 := by have := congrArg List.length ht; unfold zQu at this; rw [List.length_map, List.length_map, List.length_range, hn4] at this; exact this
    exact ⟨A, n, c1, u, _, rfl, hp, ⟨A', c', by rw [htl]⟩, hb⟩))
 have HOTH := hide (fun (W : World) (hW : Below b2 w2 W) (hr : Reads W W.heap.size 8 A5 k (l4.flatMap StpI.cells)) =>
  zSq c A5 A2 k c5 n2 cc2 l4 es x W.heap.size W hk.symm (by omega) hr (zAa HL2) (zAa HM2) ((((zAa HR2).below (hD.bel.mono (zAa HBB))).below (hW.mono (by rw [hb2e]; exact Nat.le_trans (zAa HBB) hD.bel.size))).more (by rw [hb2e] at hW; exact Nat.le_trans (Nat.le_trans (zAa HBB) hD.bel.size) hW.size)) ((hcok.below (by rw [← hb2e]; exact hW)).more (by rw [hb2e] at hW; exact hW.size)) (Nat.le_refl _) hx16 (fun s hs => (zAa HOK s hs).2) (by rw [hzs]; exact hls3) (by rw [hzs]; exact zMn zs))
 have HKC := hide hD.kc
 have HBR := hide hD.bel
 have HRR := hide (show Reads w2 b2 8 A5 k (l4.flatMap StpI.cells) by rw [hb2e]; exact Reads.of_own ho2)
 have HL4 := hide hk
 have HCFG := hide hcf
 have HN4 := hide hn4
 have HM4 := hide hm2
 have HWF4 := hide hwf4
 have HOTHL := hide (show (zEj c x l4 es).length = k by unfold zEj; rw [zFk]; exact hk.symm)
 have HOTHW := hide (other_wf (c := c) (x := x) l4 es hwf4 (zAa HWE))
 have HBw2 := hide (show Below b2 w2 w2 from Below.refl _ _)
 obtain ⟨it, hit, ht0, ht1, ht2⟩ := zKb
 have H1C := hide (fun (ss : List StpI) (u : Value) (hu : u ∈ ss.flatMap StpI.cells) => show u.oneCell' = true by
  obtain ⟨s, _, hs⟩ := List.mem_flatMap.1 hu
  unfold StpI.cells at hs
  simp at hs
  rcases hs with rfl | rfl | rfl | rfl | rfl | rfl | rfl | rfl <;> rfl)
 have HN63 := hide (show 0 + k ≤ maxLen by unfold maxLen; omega)
 have HNB := hide (show (0 + k) * 64 ≤ 140737488355328 by omega)
 unfold Cfg.val at HSEEN HEND HOTH
 clear hk hD hls3 hcok hcf hzs hn4 hm2 hT hg0 hTr hgr hwf4 ho2 hb2 hb2e HSO HD HTG HR2 HL2 HWE HBB HM2
 have hi0 : ¬ ((i : Int) < 0) := by omega
 have kcw2 := (zAa HKC).below (zAa HBw2) (by rw [zAa HB2]; exact (zAa HKC).lt)
 have e0 := fun m : Ext w2 => m.cell (show w2.cell? ⟨q, 0, none⟩ = some (.int .i64 c.br) from kcw2.cell 0)
 have e1 := fun m : Ext w2 => m.cell (show w2.cell? ⟨q, 1, none⟩ = some (.slice c.la.A c.la.n c.la.c) from kcw2.cell 1)
 have e2 := fun m : Ext w2 => m.cell (show w2.cell? ⟨q, 2, none⟩ = some (.int .i64 c.tk) from kcw2.cell 2)
 have e3 := fun m : Ext w2 => m.cell (show w2.cell? ⟨q, 3, none⟩ = some (.slice c.mi.A c.mi.n c.mi.c) from kcw2.cell 3)
 have e4 := fun m : Ext w2 => m.cell (show w2.cell? ⟨q, 4, none⟩ = some (.int .i64 c.cap) from kcw2.cell 4)
 go_upto_region 4 with fail
 refine zDz [0, 1, 2, 3, 4] [5] [6] (by kernel_rfl) (by kernel_rfl) (by intro c a d v w h; cases d <;> exact h) ?_
 simp only [zAb, List.map_cons, List.map_nil, List.getD_cons_zero, List.getD_cons_succ]
 repeat (go_big_quiet_step (fail))
 refine wpQuiet_nil ?_
 clear e0 e1 e2 e3 e4 kcw2
 have hd0 : Below w2.heap.size w2 w2.drew := (Below.refl _ _).drew
 generalize w2.drew = wd at hd0 ⊢
 simp only [wpAl]
 have hbd := (zAa HBw2).trans (hd0.mono (by rw [zAa HB2]; exact (zAa HBw2).size))
 have HCw4 := hide ((zAa HOTH) wd hbd (((zAa HRR).below hbd).more (by rw [zAa HB2]; exact hbd.size)))
 go_wp2_with fail
 refine (zAa HCw4).mono ?_
 rintro _ w4 ⟨v4, rfl, ho4, hcw4⟩
 have hbw4 := hbd.trans (hcw4.mono (by rw [zAa HB2]; exact hbd.size))
 have HBw4 := hide hbw4
 unfold zFp at ho4
 rw [zAa HOTHL] at ho4
 obtain ⟨A7, c7, hv4, _⟩ := zAf ho4
 subst hv4
 have HR7 := hide (show Reads w4 w4.heap.size 8 A7 k ((zEj c x l4 es).flatMap StpI.cells) from Reads.of_own ho4)
 clear ho4 HOTH
 have hxw4 := hd0.trans (hcw4.mono hd0.size)
 clear hcw4 hbw4 HCw4
 go_wp2_with fail
 refine ⟨⟨⟨_, hxw4⟩, rfl⟩, ?_⟩
 repeat (go_big_quiet_step (fail))
 refine wpQuiet_nil ?_
 clear hd0 hbd hxw4
 have kcw4 := (zAa HKC).below (zAa HBw4) (by rw [zAa HB2]; exact (zAa HKC).lt)
 have e0 := fun m : Ext w4 => m.cell (show w4.cell? ⟨q, 0, none⟩ = some (.int .i64 c.br) from kcw4.cell 0)
 have e1 := fun m : Ext w4 => m.cell (show w4.cell? ⟨q, 1, none⟩ = some (.slice c.la.A c.la.n c.la.c) from kcw4.cell 1)
 have e2 := fun m : Ext w4 => m.cell (show w4.cell? ⟨q, 2, none⟩ = some (.int .i64 c.tk) from kcw4.cell 2)
 have e3 := fun m : Ext w4 => m.cell (show w4.cell? ⟨q, 3, none⟩ = some (.slice c.mi.A c.mi.n c.mi.c) from kcw4.cell 3)
 have e4 := fun m : Ext w4 => m.cell (show w4.cell? ⟨q, 4, none⟩ = some (.int .i64 c.cap) from kcw4.cell 4)
 go_upto_region 5 with fail
 refine zDz [0, 1, 2, 3] [4, 5] [6, 7, 8, 9, 10, 11] (by kernel_rfl) (by kernel_rfl) (by intro c a d v w h; cases d <;> exact h) ?_
 simp only [zAb, List.map_cons, List.map_nil, List.getD_cons_zero, List.getD_cons_succ]
 repeat (go_big_quiet_step (fail))
 refine wpQuiet_nil ?_
 clear e0 e1 e2 e3 e4 kcw4
 have hd0 : Below w4.heap.size w4 w4.drew := (Below.refl _ _).drew
 generalize w4.drew = wd at hd0 ⊢
 simp only [wpAl]
 have hbd := (zAa HBw4).trans (hd0.mono (by rw [zAa HB2]; exact (zAa HBw4).size))
 have HCw5 := hide ((zAa HSEEN) A5 c5 l4 wd hbd (zAa HL4).symm (((zAa HRR).below hbd).more (by rw [zAa HB2]; exact hbd.size)) (zAa HWF4))
 go_wp2_with fail
 refine (zAa HCw5).mono ?_
 rintro _ w5 ⟨v5, u5, vs5, us5, rfl, hd5, hu5, ho5v, ho5, hcw5⟩
 have hbw5 := hbd.trans (hcw5.mono (by rw [zAa HB2]; exact hbd.size))
 have HBw5 := hide hbw5
 have HU5 := hide (And.intro hu5 ho5)
 replace HR7 := hide (((zAa HR7).below (hd0.trans (hcw5.mono hd0.size))).more (hd0.trans (hcw5.mono hd0.size)).size)
 clear hd5 hu5 ho5v ho5
 have hxw5 := hd0.trans (hcw5.mono hd0.size)
 clear hcw5 hbw5 HCw5
 go_wp2_with fail
 refine ⟨⟨⟨_, hxw5⟩, rfl⟩, ?_⟩
 go_wp2_with fail
 refine ⟨⟨⟨_, hxw5⟩, rfl⟩, ?_⟩
 repeat (go_big_quiet_step (fail))
 refine wpQuiet_nil ?_
 clear hd0 hbd hxw5
 have kcw5 := (zAa HKC).below (zAa HBw5) (by rw [zAa HB2]; exact (zAa HKC).lt)
 have e0 := fun m : Ext w5 => m.cell (show w5.cell? ⟨q, 0, none⟩ = some (.int .i64 c.br) from kcw5.cell 0)
 have e1 := fun m : Ext w5 => m.cell (show w5.cell? ⟨q, 1, none⟩ = some (.slice c.la.A c.la.n c.la.c) from kcw5.cell 1)
 have e2 := fun m : Ext w5 => m.cell (show w5.cell? ⟨q, 2, none⟩ = some (.int .i64 c.tk) from kcw5.cell 2)
 have e3 := fun m : Ext w5 => m.cell (show w5.cell? ⟨q, 3, none⟩ = some (.slice c.mi.A c.mi.n c.mi.c) from kcw5.cell 3)
 have e4 := fun m : Ext w5 => m.cell (show w5.cell? ⟨q, 4, none⟩ = some (.int .i64 c.cap) from kcw5.cell 4)
 go_upto_region 6 with fail
 refine zDz [0, 1, 2, 3] [4, 5] [6, 7, 8, 9, 10, 11] (by kernel_rfl) (by kernel_rfl) (by intro c a d v w h; cases d <;> exact h) ?_
 simp only [zAb, List.map_cons, List.map_nil, List.getD_cons_zero, List.getD_cons_succ]
 repeat (go_big_quiet_step (fail))
 refine wpQuiet_nil ?_
 clear e0 e1 e2 e3 e4 kcw5
 have hd0 : Below w5.heap.size w5 w5.drew := (Below.refl _ _).drew
 generalize w5.drew = wd at hd0 ⊢
 simp only [wpAl]
 have hbd := (zAa HBw5).trans (hd0.mono (by rw [zAa HB2]; exact (zAa HBw5).size))
 have hr7d := ((zAa HR7).below hd0).more hd0.size
 have HCw6 := hide ((zAa HSEEN) A7 c7 (zEj c x l4 es) wd hbd (zAa HOTHL) hr7d (zAa HOTHW))
 go_wp2_with fail
 refine (zAa HCw6).mono ?_
 rintro _ w6 ⟨v6, u6, vs6, us6, rfl, hd6, hu6, ho6v, ho6, hcw6⟩
 have hbw6 := hbd.trans (hcw6.mono (by rw [zAa HB2]; exact hbd.size))
 have HBw6 := hide hbw6
 have HU6 := hide (And.intro hu6 ho6)
 replace HR7 := hide (((zAa HR7).below (hd0.trans (hcw6.mono hd0.size))).more (hd0.trans (hcw6.mono hd0.size)).size)
 have HW56 := hide (hd0.trans (hcw6.mono hd0.size))
 clear hd6 hu6 ho6v ho6 hr7d HSEEN
 have hxw6 := hd0.trans (hcw6.mono hd0.size)
 clear hcw6 hbw6 HCw6
 go_wp2_with fail
 refine ⟨⟨⟨_, hxw6⟩, rfl⟩, ?_⟩
 go_wp2_with fail
 refine ⟨⟨⟨_, hxw6⟩, rfl⟩, ?_⟩
 repeat (go_big_quiet_step (fail))
 refine wpQuiet_nil ?_
 clear hd0 hbd hxw6
 have kcw6 := (zAa HKC).below (zAa HBw6) (by rw [zAa HB2]; exact (zAa HKC).lt)
 have e0 := fun m : Ext w6 => m.cell (show w6.cell? ⟨q, 0, none⟩ = some (.int .i64 c.br) from kcw6.cell 0)
 have e1 := fun m : Ext w6 => m.cell (show w6.cell? ⟨q, 1, none⟩ = some (.slice c.la.A c.la.n c.la.c) from kcw6.cell 1)
 have e2 := fun m : Ext w6 => m.cell (show w6.cell? ⟨q, 2, none⟩ = some (.int .i64 c.tk) from kcw6.cell 2)
 have e3 := fun m : Ext w6 => m.cell (show w6.cell? ⟨q, 3, none⟩ = some (.slice c.mi.A c.mi.n c.mi.c) from kcw6.cell 3)
 have e4 := fun m : Ext w6 => m.cell (show w6.cell? ⟨q, 4, none⟩ = some (.int .i64 c.cap) from kcw6.cell 4)
 go_upto_region 7 with fail
 refine zDz [0, 1] [2, 3, 4] [5, 6, 7, 8, 9, 10, 11, 12] (by kernel_rfl) (by kernel_rfl) (by intro c a d v w h; cases d <;> exact h) ?_
 simp only [zAb, List.map_cons, List.map_nil, List.getD_cons_zero, List.getD_cons_succ]
 repeat (go_big_quiet_step (fail))
 refine wpQuiet_nil ?_
 clear e0 e1 e2 e3 e4 kcw6
 have hd0 : Below w6.heap.size w6 w6.drew := (Below.refl _ _).drew
 generalize w6.drew = wd at hd0 ⊢
 simp only [wpAl]
 have hbd := (zAa HBw6).trans (hd0.mono (by rw [zAa HB2]; exact (zAa HBw6).size))
 have HRD := hide (((zAa HRR).below hbd).more (by rw [zAa HB2]; exact hbd.size))
 have HNIL := hide (World.ownsRow_nil wd wd.heap.size 48 8)
 go_wp2_with (first
  | (at_builtin; (refine zAr _ rfl (.const (.slice none 0 0)) (.tmp 68) _ rfl wd.heap.size 48 it _ 8 64 Tryz.underlying25 hit ht0 ht1 ht2 rfl (by omega) (.slice none 0 0) 0 _ rfl (zAa HNIL) wd.heap.size A5 k c5 (l4.flatMap StpI.cells) rfl (zAa HRD) (zAa H1C _) (zAa HN63) (zAa HNB) (Nat.le_refl _) ?_); intro v10 wa hown10 hgr10 hat10))
 obtain ⟨A10, c10, hv10, _⟩ := zAf hown10
 subst hv10
 rw [Nat.zero_add] at hown10
 have hb10 := zGn hgr10
 have hxa := hd0.trans (hb10.mono hd0.size)
 have hba := hbd.trans (hb10.mono (by rw [zAa HB2]; exact hbd.size))
 rw [Nat.zero_add]
 refine ⟨⟨⟨_, hxa⟩, rfl⟩, ?_⟩
 have HCE := hide ((zAa HEND) A10 c10 (l4) wa hba (zAa HL4).symm (Reads.of_own hown10) (zAa HWF4))
 clear hgr10 hat10 hown10 HRD HNIL
 go_wp2_with fail
 refine (zAa HCE).mono ?_
 rintro _ w7 ⟨A11, n11, c11, uw7, s11, rfl, hpw7, ⟨A12, c12, rfl⟩, hcw7⟩
 have hbw7 := hba.trans (hcw7.mono (by rw [zAa HB2]; exact hba.size))
 have HBw7 := hide hbw7
 have hxw7 := hxa.trans (hcw7.mono hxa.size)
 have HPw7 := hide hpw7
 clear hcw7 hbw7 hpw7 HCE hxa hba hb10
 go_wp2_with fail
 refine ⟨⟨⟨_, hxw7⟩, rfl⟩, ?_⟩
 go_wp2_with fail
 refine ⟨⟨⟨_, hxw7⟩, rfl⟩, ?_⟩
 repeat (go_big_quiet_step (fail))
 refine wpQuiet_nil ?_
 have HXw7 := hide hxw7
 clear hd0 hbd hxw7
 replace HR7 := hide (((zAa HR7).below (zAa HXw7)).more (zAa HXw7).size)
 have kcw7 := (zAa HKC).below (zAa HBw7) (by rw [zAa HB2]; exact (zAa HKC).lt)
 have e0 := fun m : Ext w7 => m.cell (show w7.cell? ⟨q, 0, none⟩ = some (.int .i64 c.br) from kcw7.cell 0)
 have e1 := fun m : Ext w7 => m.cell (show w7.cell? ⟨q, 1, none⟩ = some (.slice c.la.A c.la.n c.la.c) from kcw7.cell 1)
 have e2 := fun m : Ext w7 => m.cell (show w7.cell? ⟨q, 2, none⟩ = some (.int .i64 c.tk) from kcw7.cell 2)
 have e3 := fun m : Ext w7 => m.cell (show w7.cell? ⟨q, 3, none⟩ = some (.slice c.mi.A c.mi.n c.mi.c) from kcw7.cell 3)
 have e4 := fun m : Ext w7 => m.cell (show w7.cell? ⟨q, 4, none⟩ = some (.int .i64 c.cap) from kcw7.cell 4)
 go_upto_region 8 with fail
 refine zDz [0, 1] [2, 3, 4] [5, 6, 7, 8, 9, 10, 11, 12] (by kernel_rfl) (by kernel_rfl) (by intro c a d v w h; cases d <;> exact h) ?_
 simp only [zAb, List.map_cons, List.map_nil, List.getD_cons_zero, List.getD_cons_succ]
 repeat (go_big_quiet_step (fail))
 refine wpQuiet_nil ?_
 clear e0 e1 e2 e3 e4 kcw7
 have hd0 : Below w7.heap.size w7 w7.drew := (Below.refl _ _).drew
 generalize w7.drew = wd at hd0 ⊢
 simp only [wpAl]
 have hbd := (zAa HBw7).trans (hd0.mono (by rw [zAa HB2]; exact (zAa HBw7).size))
 have HRD := hide (((zAa HR7).below hd0).more hd0.size)
 have HNIL := hide (World.ownsRow_nil wd wd.heap.size 48 8)
 go_wp2_with (first
  | (at_builtin; (refine zAr _ rfl (.const (.slice none 0 0)) (.tmp 77) _ rfl wd.heap.size 48 it _ 8 64 Tryz.underlying25 hit ht0 ht1 ht2 rfl (by omega) (.slice none 0 0) 0 _ rfl (zAa HNIL) wd.heap.size A7 k c7 ((zEj c x l4 es).flatMap StpI.cells) rfl (zAa HRD) (zAa H1C _) (zAa HN63) (zAa HNB) (Nat.le_refl _) ?_); intro v10 wa hown10 hgr10 hat10))
 obtain ⟨A10, c10, hv10, _⟩ := zAf hown10
 subst hv10
 rw [Nat.zero_add] at hown10
 have hb10 := zGn hgr10
 have hxa := hd0.trans (hb10.mono hd0.size)
 have hba := hbd.trans (hb10.mono (by rw [zAa HB2]; exact hbd.size))
 rw [Nat.zero_add]
 refine ⟨⟨⟨_, hxa⟩, rfl⟩, ?_⟩
 have HCE := hide ((zAa HEND) A10 c10 ((zEj c x l4 es)) wa hba (zAa HOTHL) (Reads.of_own hown10) (zAa HOTHW))
 clear hgr10 hat10 hown10 HRD HNIL
 go_wp2_with fail
 refine (zAa HCE).mono ?_
 rintro _ w8 ⟨A11, n11, c11, uw8, s11, rfl, hpw8, ⟨A12, c12, rfl⟩, hcw8⟩
 have hbw8 := hba.trans (hcw8.mono (by rw [zAa HB2]; exact hba.size))
 have HBw8 := hide hbw8
 have hxw8 := hxa.trans (hcw8.mono hxa.size)
 have HPw8 := hide hpw8
 clear hcw8 hbw8 hpw8 HCE hxa hba hb10
 go_wp2_with fail
 refine ⟨⟨⟨_, hxw8⟩, rfl⟩, ?_⟩
 go_wp2_with fail
 refine ⟨⟨⟨_, hxw8⟩, rfl⟩, ?_⟩
 repeat (go_big_quiet_step (fail))
 refine wpQuiet_nil ?_
 have HXw8 := hide hxw8
 clear hd0 hbd hxw8
 have hp7 := ((zAa HPw7).below (zAa HXw8)).more (zAa HXw8).size
 have hp8 := zAa HPw8
 obtain ⟨b7, o7, d7, b7', o7', d7', hv7, hl7, g7, hl7', z7⟩ := zVm (k := 0) hp7 (zAa HN4) (zAa HM4) hi4 (by omega)
 obtain ⟨b8, o8, d8, b8', o8', d8', hv8, hl8, g8, hl8', z8⟩ := zVm (k := 0) hp8 (zAa HN4) (zAa HM4) hi4 (by omega)
 subst hv7 hv8
 have hi4' : (i : Int) < 4 := by omega
 obtain ⟨hTr, hgr⟩ := zAa HTGR
 have hb8 := zAa HBw8
 have HSU := hide (sure_any w8 (fun j hj => (hb8.cell (p := ⟨_, j, none⟩) (by rw [zAa HB2]; exact hgr)).trans (hTr j hj)) (Nat.lt_of_lt_of_le hgr (by have := hb8.size; exact this)))
 have HL := hide (And.intro hl7 (And.intro hl7' (And.intro hl8 hl8')))
 have HZ := hide (And.intro z7 z8)
 have HG := hide (And.intro g7 g8)
 clear hp7 hp8 hl7 hl7' hl8 hl8' z7 z8 hTr hgr hb8 HPw7 HPw8
 go_wp2_with fail
 refine (zAa HSU).mono ?_
 rintro _ w9 ⟨rfl, HX9⟩
 have h59 := (zAa HW56).trans (((zAa HXw7).trans (((zAa HXw8).trans (HX9.mono (zAa HXw8).size)).mono (zAa HXw7).size)).mono (zAa HW56).size)
 have h69 := (zAa HXw7).trans (((zAa HXw8).trans (HX9.mono (zAa HXw8).size)).mono (zAa HXw7).size)
 obtain ⟨hu5, ho5⟩ := zAa HU5
 obtain ⟨hu6, ho6⟩ := zAa HU6
 obtain ⟨B5, c20, rfl, hcc5, hcm5, hrd5, hok5⟩ := (ho5.below h59).at_
 obtain ⟨B6, c23, rfl, hcc6, hcm6, hrd6, hok6⟩ := (ho6.below h69).at_
 have hl5 : us5.length = k := by have := congrArg List.length hu5; rw [List.length_map, zIc, ← zAa HL4] at this; exact this
 have hl6 : us6.length = k := by have := congrArg List.length hu6; rw [List.length_map, zIc, zAa HOTHL] at this; exact this
 rw [hl5] at hrd5 ⊢
 rw [hl6] at hrd6 ⊢
 have HRP := hide (fun n : Ext w9 => (zYj B5 B6 k k c20 c23 us5 us6 w9.heap.size n.W hl5 hl6 (by omega) (by omega) (hrd5.below n.h) (hrd6.below n.h) (fun t ht => (hok5 t ht).below n.h) (fun t ht => (hok6 t ht).below n.h)).mono fun e w' ⟨he, nq, hnq⟩ => show e = _ ∧ Below n.W.heap.size n.W w' from ⟨he, by rw [← hnq]; exact below_drewN (Below.refl _ _) nq⟩)
 have HEQ := hide (show us5.map (fun t => t.d.report) = us6.map (fun t => t.d.report) → zEt c (runW c l4 (WS.new c)).2 i = zEt c (runW c (zEj c x l4 es) (WS.new c)).2 i from fun hrep => by
  refine yCy (zNn (zAa HCFG) (zXs (zAa HN4) l4 es (fun s hs => (zAa HOK s hs).2.1)) (WS.new c) (WS.new c) 0 (Rel.new c x) zVv zVv (zNz (zAa HCFG)) (zNz (zAa HCFG)) ?_).1 (zAa HXI)
  rw [← hu5, ← hu6, List.map_map, List.map_map]
  exact hrep)
 have HB9 := hide ((zAa HBR).trans (((zAa HBw8).trans (HX9.mono (by rw [zAa HB2]; exact (zAa HBw8).size))).mono (by rw [zAa HB2]; exact (zAa HBR).size)))
 obtain ⟨hl7, hl7', hl8, hl8'⟩ := zAa HL
 obtain ⟨z7, z8⟩ := zAa HZ
 obtain ⟨g7, g8⟩ := zAa HG
 have hl7 : b7 < w8.heap.size := hl7
 clear h59 h69 hu5 hu6 ho5 ho6 hcc5 hcm5 hcc6 hcm6 hrd5 hrd6 hok5 hok6 hl5 hl6 HU5 HU6
 by_cases hrep : us5.map (fun t => t.d.report) = us6.map (fun t => t.d.report)
 ·have hps := zAa HEQ hrep
  have hpl : (zEt c (runW c l4 (WS.new c)).2 i).length = 2 := by unfold zEt; rw [List.length_map, List.length_range, zAa HM4]
  obtain ⟨p0, p1, hp2⟩ : ∃ p0 p1, zEt c (runW c l4 (WS.new c)).2 i = [p0, p1] := by
   match h : zEt c (runW c l4 (WS.new c)).2 i, hpl with
   | [p0, p1], _ => exact ⟨p0, p1, rfl⟩
  have hp2' := hps.symm.trans hp2
  have i7 := fun n : Ext w9 => n.cell ((HX9.cell (p := ⟨b7, o7 + i, none⟩) hl7).trans g7)
  have i8 := fun n : Ext w9 => n.cell ((HX9.cell (p := ⟨b8, o8 + i, none⟩) hl8).trans g8)
  have f700 := fun n : Ext w9 => n.cell (show w9.cell? ⟨b7', o7', none⟩ = some (.int .i64 p0.asked) from (HX9.cell (p := ⟨b7', _, none⟩) (hl7')).trans (by have h := z7 0 p0 (by rw [hp2]; rfl) 0 _ rfl; simpa using h))
  have f701 := fun n : Ext w9 => n.cell (show w9.cell? ⟨b7', o7' + 1, none⟩ = some (.int .i64 p0.stk.code) from (HX9.cell (p := ⟨b7', _, none⟩) (hl7')).trans (by have h := z7 0 p0 (by rw [hp2]; rfl) 1 _ rfl; simpa using h))
  have f702 := fun n : Ext w9 => n.cell (show w9.cell? ⟨b7', o7' + 2, none⟩ = some (.int .i64 p0.stk.id) from (HX9.cell (p := ⟨b7', _, none⟩) (hl7')).trans (by have h := z7 0 p0 (by rw [hp2]; rfl) 2 _ rfl; simpa using h))
  have f703 := fun n : Ext w9 => n.cell (show w9.cell? ⟨b7', o7' + 3, none⟩ = some (.int .i64 p0.stk.free) from (HX9.cell (p := ⟨b7', _, none⟩) (hl7')).trans (by have h := z7 0 p0 (by rw [hp2]; rfl) 3 _ rfl; simpa using h))
  have f704 := fun n : Ext w9 => n.cell (show w9.cell? ⟨b7', o7' + 4, none⟩ = some (.int .i64 p0.stk.held) from (HX9.cell (p := ⟨b7', _, none⟩) (hl7')).trans (by have h := z7 0 p0 (by rw [hp2]; rfl) 4 _ rfl; simpa using h))
  have f705 := fun n : Ext w9 => n.cell (show w9.cell? ⟨b7', o7' + 5, none⟩ = some (.int .i64 p0.stk.used) from (HX9.cell (p := ⟨b7', _, none⟩) (hl7')).trans (by have h := z7 0 p0 (by rw [hp2]; rfl) 5 _ rfl; simpa using h))
  have f710 := fun n : Ext w9 => n.cell (show w9.cell? ⟨b7', o7' + 1 * 6, none⟩ = some (.int .i64 p1.asked) from (HX9.cell (p := ⟨b7', _, none⟩) (hl7')).trans (by have h := z7 1 p1 (by rw [hp2]; rfl) 0 _ rfl; simpa using h))
  have f711 := fun n : Ext w9 => n.cell (show w9.cell? ⟨b7', o7' + 1 * 6 + 1, none⟩ = some (.int .i64 p1.stk.code) from (HX9.cell (p := ⟨b7', _, none⟩) (hl7')).trans (by have h := z7 1 p1 (by rw [hp2]; rfl) 1 _ rfl; simpa using h))
  have f712 := fun n : Ext w9 => n.cell (show w9.cell? ⟨b7', o7' + 1 * 6 + 2, none⟩ = some (.int .i64 p1.stk.id) from (HX9.cell (p := ⟨b7', _, none⟩) (hl7')).trans (by have h := z7 1 p1 (by rw [hp2]; rfl) 2 _ rfl; simpa using h))
  have f713 := fun n : Ext w9 => n.cell (show w9.cell? ⟨b7', o7' + 1 * 6 + 3, none⟩ = some (.int .i64 p1.stk.free) from (HX9.cell (p := ⟨b7', _, none⟩) (hl7')).trans (by have h := z7 1 p1 (by rw [hp2]; rfl) 3 _ rfl; simpa using h))
  have f714 := fun n : Ext w9 => n.cell (show w9.cell? ⟨b7', o7' + 1 * 6 + 4, none⟩ = some (.int .i64 p1.stk.held) from (HX9.cell (p := ⟨b7', _, none⟩) (hl7')).trans (by have h := z7 1 p1 (by rw [hp2]; rfl) 4 _ rfl; simpa using h))
  have f715 := fun n : Ext w9 => n.cell (show w9.cell? ⟨b7', o7' + 1 * 6 + 5, none⟩ = some (.int .i64 p1.stk.used) from (HX9.cell (p := ⟨b7', _, none⟩) (hl7')).trans (by have h := z7 1 p1 (by rw [hp2]; rfl) 5 _ rfl; simpa using h))
  have f800 := fun n : Ext w9 => n.cell (show w9.cell? ⟨b8', o8', none⟩ = some (.int .i64 p0.asked) from (HX9.cell (p := ⟨b8', _, none⟩) (hl8')).trans (by have h := z8 0 p0 (by rw [hp2']; rfl) 0 _ rfl; simpa using h))
  have f801 := fun n : Ext w9 => n.cell (show w9.cell? ⟨b8', o8' + 1, none⟩ = some (.int .i64 p0.stk.code) from (HX9.cell (p := ⟨b8', _, none⟩) (hl8')).trans (by have h := z8 0 p0 (by rw [hp2']; rfl) 1 _ rfl; simpa using h))
  have f802 := fun n : Ext w9 => n.cell (show w9.cell? ⟨b8', o8' + 2, none⟩ = some (.int .i64 p0.stk.id) from (HX9.cell (p := ⟨b8', _, none⟩) (hl8')).trans (by have h := z8 0 p0 (by rw [hp2']; rfl) 2 _ rfl; simpa using h))
  have f803 := fun n : Ext w9 => n.cell (show w9.cell? ⟨b8', o8' + 3, none⟩ = some (.int .i64 p0.stk.free) from (HX9.cell (p := ⟨b8', _, none⟩) (hl8')).trans (by have h := z8 0 p0 (by rw [hp2']; rfl) 3 _ rfl; simpa using h))
  have f804 := fun n : Ext w9 => n.cell (show w9.cell? ⟨b8', o8' + 4, none⟩ = some (.int .i64 p0.stk.held) from (HX9.cell (p := ⟨b8', _, none⟩) (hl8')).trans (by have h := z8 0 p0 (by rw [hp2']; rfl) 4 _ rfl; simpa using h))
  have f805 := fun n : Ext w9 => n.cell (show w9.cell? ⟨b8', o8' + 5, none⟩ = some (.int .i64 p0.stk.used) from (HX9.cell (p := ⟨b8', _, none⟩) (hl8')).trans (by have h := z8 0 p0 (by rw [hp2']; rfl) 5 _ rfl; simpa using h))
  have f810 := fun n : Ext w9 => n.cell (show w9.cell? ⟨b8', o8' + 1 * 6, none⟩ = some (.int .i64 p1.asked) from (HX9.cell (p := ⟨b8', _, none⟩) (hl8')).trans (by have h := z8 1 p1 (by rw [hp2']; rfl) 0 _ rfl; simpa using h))
  have f811 := fun n : Ext w9 => n.cell (show w9.cell? ⟨b8', o8' + 1 * 6 + 1, none⟩ = some (.int .i64 p1.stk.code) from (HX9.cell (p := ⟨b8', _, none⟩) (hl8')).trans (by have h := z8 1 p1 (by rw [hp2']; rfl) 1 _ rfl; simpa using h))
  have f812 := fun n : Ext w9 => n.cell (show w9.cell? ⟨b8', o8' + 1 * 6 + 2, none⟩ = some (.int .i64 p1.stk.id) from (HX9.cell (p := ⟨b8', _, none⟩) (hl8')).trans (by have h := z8 1 p1 (by rw [hp2']; rfl) 2 _ rfl; simpa using h))
  have f813 := fun n : Ext w9 => n.cell (show w9.cell? ⟨b8', o8' + 1 * 6 + 3, none⟩ = some (.int .i64 p1.stk.free) from (HX9.cell (p := ⟨b8', _, none⟩) (hl8')).trans (by have h := z8 1 p1 (by rw [hp2']; rfl) 3 _ rfl; simpa using h))
  have f814 := fun n : Ext w9 => n.cell (show w9.cell? ⟨b8', o8' + 1 * 6 + 4, none⟩ = some (.int .i64 p1.stk.held) from (HX9.cell (p := ⟨b8', _, none⟩) (hl8')).trans (by have h := z8 1 p1 (by rw [hp2']; rfl) 4 _ rfl; simpa using h))
  have f815 := fun n : Ext w9 => n.cell (show w9.cell? ⟨b8', o8' + 1 * 6 + 5, none⟩ = some (.int .i64 p1.stk.used) from (HX9.cell (p := ⟨b8', _, none⟩) (hl8')).trans (by have h := z8 1 p1 (by rw [hp2']; rfl) 5 _ rfl; simpa using h))
  rw [decide_eq_true hrep] at HRP
  clear hps hpl hp2 hp2' hl7 hl7' hl8 hl8' z7 z8 g7 g8 HX9 hrep HEQ
  go_wp2_with fail
  go_upto_region 11 with fail
  refine zCr (by kernel_rfl) (by kernel_rfl) ?_
  repeat (go_big_quiet_step ((go_at_call 21; exact zDi (zAa HRP _))))
  refine wpQuiet_nil ?_
  rintro _ ⟨nq, rfl⟩
  go_wp2_with fail
  go_ret
  exact ⟨rfl, (zAa HB9).trans (nq.h.mono (zAa HB9).size)⟩
 ·rw [decide_eq_false hrep] at HRP
  clear hl7 hl7' hl8 hl8' z7 z8 g7 g8 HX9 hrep HEQ
  go_wp2_with fail
  go_upto_region 11 with fail
  refine zCr (by kernel_rfl) (by kernel_rfl) ?_
  repeat (go_big_quiet_step ((go_at_call 21; exact zDi (zAa HRP _))))
  refine wpQuiet_nil ?_
  rintro _ ⟨nq, rfl⟩
  go_wp2_with fail
  go_ret
  exact ⟨rfl, (zAa HB9).trans (nq.h.mono (zAa HB9).size)⟩
end
end Go.Proofs.YtbolcebmbpepdaaGreatDoor
