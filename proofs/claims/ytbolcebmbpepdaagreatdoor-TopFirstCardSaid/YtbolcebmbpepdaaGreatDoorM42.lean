/- Contracts and plain facts, set together by program out of smaller texts. Conditions: none beyond what each theorem states. -/
import Derived.Test.YtbolcebmbpepdaaGreatDoorM41
namespace Go.Proofs.YtbolcebmbpepdaaGreatDoor
set_option linter.unusedVariables false
section
open Go.RowKit
def treeF1 : OT := (.next 5 (.next 7 (.next 8 (.fork (.next 9 (.fork (.next 10 (.fork (.next 11 (.next 12 (.next 13 (.next 14 .done)))) (.next 12 (.fork (.next 11 (.next 13 (.next 14 .done))) (.next 13 (.next 11 (.next 14 .done))))))) (.fork (.next 11 (.fork (.next 10 (.next 12 (.next 13 (.next 14 .done)))) (.next 12 (.next 10 (.next 13 (.next 14 .done)))))) (.next 12 (.fork (.next 10 (.fork (.next 11 (.next 13 (.next 14 .done))) (.next 13 (.next 11 (.next 14 .done))))) (.next 11 (.next 10 (.next 13 (.next 14 .done))))))))) (.fork (.next 10 (.fork (.next 9 (.fork (.next 11 (.next 12 (.next 13 (.next 14 .done)))) (.next 12 (.fork (.next 11 (.next 13 (.next 14 .done))) (.next 13 (.next 11 (.next 14 .done))))))) (.next 11 (.next 9 (.next 12 (.next 13 (.next 14 .done))))))) (.next 11 (.fork (.next 9 (.fork (.next 10 (.next 12 (.next 13 (.next 14 .done)))) (.next 12 (.next 10 (.next 13 (.next 14 .done)))))) (.next 10 (.next 9 (.next 12 (.next 13 (.next 14 .done))))))))))))
def loseAt (W : World) (g k : Nat) : World := (((((((W.setCell ⟨g, k * 8, none⟩ (.int .i64 11)).setCell ⟨g, k * 8 + 1, none⟩ (.int .i64 0)).setCell ⟨g, k * 8 + 2, none⟩ (.int .i64 0)).setCell ⟨g, k * 8 + 3, none⟩ (.int .i64 0)).setCell ⟨g, k * 8 + 4, none⟩ (.int .i64 0)).setCell ⟨g, k * 8 + 5, none⟩ (.int .i64 0)).setCell ⟨g, k * 8 + 6, none⟩ (.int .i64 0)).setCell ⟨g, k * 8 + 7, none⟩ (.int .i64 0)
section
variable {W : World} {base g n cap k : Nat} {l : List StpI} {s : StpI}
theorem loseAt_own (h : W.ownsRow base 48 8 (.slice (some ⟨g, 0, none⟩) n cap) n (l.flatMap StpI.cells)) (hl : l.length = n) (hx : l[k]? = some s) :
    (loseAt W g k).ownsRow base 48 8 (.slice (some ⟨g, 0, none⟩) n cap) n ((l.set k stpLose).flatMap StpI.cells) := by
 have h1 := stp_set (j := 0) (y := { s with kind := 11 }) (u := .int .i64 11) h hl hx (by omega) rfl
 have h2 := stp_set (j := 1) (y := { s with kind := 11, who := 0 }) (u := .int .i64 0) h1 (by simp only [List.length_set]; exact hl) (get_set_self hx) (by omega) rfl
 have h3 := stp_set (j := 2) (y := { s with kind := 11, who := 0, item := 0 }) (u := .int .i64 0) h2 (by simp only [List.length_set]; exact hl) (get_set_self (get_set_self hx)) (by omega) rfl
 have h4 := stp_set (j := 3) (y := { s with kind := 11, who := 0, item := 0, count := 0 }) (u := .int .i64 0) h3 (by simp only [List.length_set]; exact hl) (get_set_self (get_set_self (get_set_self hx))) (by omega) rfl
 have h5 := stp_set (j := 4) (y := { s with kind := 11, who := 0, item := 0, count := 0, life := 0 }) (u := .int .i64 0) h4 (by simp only [List.length_set]; exact hl) (get_set_self (get_set_self (get_set_self (get_set_self hx)))) (by omega) rfl
 have h6 := stp_set (j := 5) (y := { s with kind := 11, who := 0, item := 0, count := 0, life := 0, id := 0 }) (u := .int .i64 0) h5 (by simp only [List.length_set]; exact hl) (get_set_self (get_set_self (get_set_self (get_set_self (get_set_self hx))))) (by omega) rfl
 have h7 := stp_set (j := 6) (y := { s with kind := 11, who := 0, item := 0, count := 0, life := 0, id := 0, label := 0 }) (u := .int .i64 0) h6 (by simp only [List.length_set]; exact hl) (get_set_self (get_set_self (get_set_self (get_set_self (get_set_self (get_set_self hx)))))) (by omega) rfl
 have h8 := stp_set (j := 7) (y := { s with kind := 11, who := 0, item := 0, count := 0, life := 0, id := 0, label := 0, key := 0 }) (u := .int .i64 0) h7 (by simp only [List.length_set]; exact hl) (get_set_self (get_set_self (get_set_self (get_set_self (get_set_self (get_set_self (get_set_self hx))))))) (by omega) rfl
 simp only [List.set_set] at h8
 exact h8
theorem loseAt_only (W : World) (g k : Nat) : Only (fun x => x = g) W (loseAt W g k) := only_put (only_put (only_put (only_put (only_put (only_put (only_put (only_put (Only.refl _ _) _ _) _ _) _ _) _ _) _ _) _ _) _ _) _ _
end
structure FirstAt (w W : World) (q : Nat) (c : Cfg) (g h : Nat) (ls : List Int) (t minted most : Int) : Prop where
 bel : Below w.heap.size w W
 kc : Blk W q 24 c.cells.toArray
 cf : CfgNew W w.heap.size c g h ls t minted most
theorem CfgNew.calm {W W' : World} {B : Nat} {c : Cfg} {g h : Nat} {ls : List Int} {ticks minted most : Int} (H : CfgNew W B c g h ls ticks minted most) (hb : Below W.heap.size W W') : CfgNew W' B c g h ls ticks minted most :=
 ⟨H.br, H.la, H.tk, H.mi, H.cap, Blk.below H.rg hb (Blk.lt H.rg), Blk.below H.rh hb (Blk.lt H.rh), H.low, H.ne⟩
theorem FirstAt.below {w W W' : World} {q g h : Nat} {c : Cfg} {ls : List Int} {t minted most : Int} (H : FirstAt w W q c g h ls t minted most) (hb : Below W.heap.size W W') : FirstAt w W' q c g h ls t minted most :=
 ⟨H.bel.trans (hb.mono H.bel.size), H.kc.below hb H.kc.lt, H.cf.calm hb⟩
theorem ticksN_le : ∀ l : List StpI, ticksN l ≤ l.length
 | [] => Nat.le_refl _
 | s :: l => by have := ticksN_le l; rw [ticksN, List.length_cons]; split <;> omega
theorem set_same {l : List StpI} {k : Nat} {s : StpI} (h : l[k]? = some s) : l.set k s = l := by
 refine List.ext_getElem? fun i => ?_
 rw [List.getElem?_set]
 split
 ·rename_i e
  subst e
  split
  ·exact h.symm
  ·rename_i h2; rw [List.getElem?_eq_none (by omega)]
 ·rfl
theorem stepsTo_ok (ds : List StpI) : ∀ k, k ≤ 200 → ∀ s ∈ stepsTo ds k, (0 ≤ s.id ∧ s.id ≤ 5000) ∧ (0 ≤ s.who ∧ s.who < 4) ∧ 0 ≤ s.label ∧ s.label < 3
 | 0, _, s, h => by cases h
 | k + 1, hk, s, h => by
  rw [stepsTo] at h
  rcases List.mem_append.1 h with h | h
  ·exact stepsTo_ok ds k (by omega) s h
  ·rw [List.mem_singleton] at h
   have hf := framesN_le (stepsTo ds k)
   rw [stepsTo_len] at hf
   obtain ⟨f, hff⟩ : ∃ f, f = framesN (stepsTo ds k) := ⟨_, rfl⟩
   rw [← hff] at h hf
   subst h
   obtain ⟨d, hd⟩ : ∃ d, d = ds.getD k stpZero := ⟨_, rfl⟩
   rw [← hd]
   have h1 : 0 ≤ d.id % ((f : Int) + 1) := Int.emod_nonneg _ (by omega)
   have h2 : d.id % ((f : Int) + 1) < f + 1 := Int.emod_lt_of_pos _ (by omega)
   unfold stepOfP
   dsimp only
   repeat' split
   all_goals first | (unfold stpTick; dsimp only; omega) | (unfold stpDel; dsimp only; omega) | (dsimp only; omega)
set_option maxRecDepth 100000 in
set_option maxHeartbeats 4000000 in
theorem topFirst_any (A A1 A2 : Option Addr) (n cc n1 cc1 n2 cc2 : Nat) (zs : List Int) (ds es : List StpI) (minted most some_ : Int) (B : Nat) (w : World) (hl : zs.length = n) (hm : n ≤ maxLen) (hr : Reads w B 1 A n (zs.map (.int .i64)))
    (hl1 : ds.length = n1) (hm1 : n1 ≤ maxLen) (hr1 : Reads w B 8 A1 n1 (ds.flatMap StpI.cells)) (hl2 : es.length = n2) (hm2 : n2 ≤ maxLen) (hr2 : Reads w B 8 A2 n2 (es.flatMap StpI.cells)) (hwe : ∀ s ∈ es, stpWf s)
    (hB : B ≤ w.heap.size) (hT : OrdT w) (hg : 0 < w.heap.size) :
    Calls Tryz.prog 5 #[.slice A n cc, .int .i64 minted, .int .i64 most, .slice A1 n1 cc1, .int .i64 some_, .slice A2 n2 cc2] w fun e w' => e = .returned (.bool true) ∧ Below w.heap.size w w' := by
 have HCF := hide (configOf_any A n cc zs 3 minted most B w hl hm hr hB)
 have HR1 := hide hr1
 have HR2 := hide hr2
 have HL2 := hide hl2
 have HWE := hide hwe
 have HBB := hide hB
 have HP16 := hide (fun a W => picked_any a 16 W (by omega))
 have HTG := hide (And.intro hT hg)
 obtain ⟨x, hx, hx16⟩ : ∃ x : Nat, (x : Int) = some_ % 16 ∧ x < 16 := ⟨(some_ % 16).toNat, by omega, by omega⟩
 have HX := hide hx
 have hm2' : n2 ≤ 9223372036854775807 := by unfold maxLen at hm2; omega
 clear hx hT hg hr hr2 hl hm hwe hl2
 go_enter Tryz.func5, Tryz.ntmps5
 go_wp2_with fail
 refine (unhide HCF).mono ?_
 rintro _ w1 ⟨c, g, h, rfl, hcf, hb1⟩
 have HC1 := hide hcf
 have HB1 := hide hb1
 clear hcf hb1 HCF
 unfold Cfg.val
 go_upto_region 2 with fail
 rw [show (#[.int .i64 c.br, .slice c.la.A c.la.n c.la.c, .int .i64 c.tk, .slice c.mi.A c.mi.n c.mi.c, .int .i64 c.cap] : Array Value) = c.cells.toArray from rfl]
 obtain ⟨wc, hwc⟩ : ∃ wc, wc = w1.alloc (.cells c.cells.toArray 24) := ⟨_, rfl⟩
 obtain ⟨q, hq⟩ : ∃ q, q = w1.heap.size := ⟨_, rfl⟩
 have hbc : Below w1.heap.size w1 wc := by rw [hwc]; exact (Below.refl _ _).alloc (Nat.le_refl _) _
 have kc : Blk wc q 24 c.cells.toArray := by rw [hwc, hq]; exact Blk.new _ _ _
 have HD := hide (show FirstAt w wc q c g h (labelsP zs) 3 minted most from ⟨(unhide HB1).trans (hbc.mono (unhide HB1).size), kc, (unhide HC1).calm hbc⟩)
 rw [← hwc, ← hq]
 clear hwc hq hbc kc HB1 HC1
 go_wp2_with fail
 refine (unhide HP16 _ _).mono ?_
 rintro _ _ ⟨rfl, rfl⟩
 rw [← unhide HX]
 have HSO := hide (stepsOf_any A1 n1 cc1 150 ds B wc hl1 hm1 (by omega) ((unhide HR1).below ((unhide HD).bel.mono (unhide HBB))) (Nat.le_trans (unhide HBB) (unhide HD).bel.size))
 obtain ⟨base, hbase⟩ : ∃ base, base = wc.heap.size := ⟨_, rfl⟩
 rw [← hbase] at HSO
 have HBASE := hide hbase
 obtain ⟨l1, hl1'⟩ : ∃ l1, l1 = stepsP ds 150 := ⟨_, rfl⟩
 rw [← hl1'] at HSO
 have hlen1 : l1.length ≤ 150 := by rw [hl1']; unfold stepsP; rw [stepsTo_len]; omega
 have HOK := hide (show ∀ s ∈ l1, (0 ≤ s.id ∧ s.id ≤ 5000) ∧ (0 ≤ s.who ∧ s.who < 4) ∧ 0 ≤ s.label ∧ s.label < 3 by rw [hl1']; exact stepsTo_ok ds _ (by omega))
 clear hl1 hm1 hl1' hbase HR1
 go_wp2_with fail
 refine (unhide HSO).mono ?_
 rintro _ w2 ⟨v2, rfl, ho2, hb2⟩
 obtain ⟨A5, c5, rfl, _⟩ := own_slice ho2
 unfold StpOwn at ho2
 obtain ⟨n5, hn5⟩ : ∃ n5, n5 = l1.length := ⟨_, rfl⟩
 rw [← hn5] at ho2 hlen1 ⊢
 have HN5 := hide hn5
 have HO2 := hide (show w2.ownsRow base 48 8 (.slice A5 n5 c5) n5 ((firstTo 4 l1 0).flatMap StpI.cells) from ho2)
 have HB2 := hide (show Below base wc w2 from hb2)
 have HTK := hide (show c.tk = 4 from (unhide HD).cf.tk)
 clear hn5 ho2 hb2 HSO
 go_wp2_with fail
 go_loopw [16, 17] (fun t i wr => ∃ k : Nat, k ≤ n5 ∧ i = .int .i64 k ∧ t = .int .i64 (ticksTo l1 k) ∧ Hid (wr.ownsRow base 48 8 (.slice A5 n5 c5) n5 ((firstTo 4 l1 k).flatMap StpI.cells)) ∧ Hid (Below base wc wr)) (fun _ i _ => n5 - (intOf i).toNat)
 case atStart => exact ⟨0, Nat.zero_le _, rfl, rfl, HO2, HB2⟩
 case round =>
  obtain ⟨k, hk, rfl, rfl, HO, HBE⟩ := hrel
  by_cases hlt : k < n5
  ·have hi1 : (k : Int) < (n5 : Int) := by omega
   obtain ⟨g5, cap', hv, hgb, hgl⟩ := (unhide HO).form (by omega)
   injection hv with hv1 hv2 hv3
   subst hv1 hv3
   obtain ⟨s, hs⟩ : ∃ s, l1[k]? = some s := ⟨_, List.getElem?_eq_getElem (by rw [← unhide HN5]; exact hlt)⟩
   obtain ⟨hst, hsk, htt⟩ := firstTo_succ 4 l1 k s hs
   have hol : (firstTo 4 l1 k).length = n5 := by rw [firstTo_len 4 l1 k (by rw [← unhide HN5]; exact hk)]; exact (unhide HN5).symm
   have hc := stp_cell (unhide HO) hol hsk
   have t0 : wr.cell? ⟨g5, k * 8, none⟩ = some (.int .i64 s.kind) := hc 0 _ rfl
   have t1 := hc 1 _ rfl
   have t2 := hc 2 _ rfl
   have t3 := hc 3 _ rfl
   have t4 := hc 4 _ rfl
   have t5 := hc 5 _ rfl
   have t6 := hc 6 _ rfl
   have t7 := hc 7 _ rfl
   have f0 : wr.frozen? ⟨g5, k * 8, none⟩ = false := stp_frozen (unhide HO) (k * 8)
   have f1 := stp_frozen (unhide HO) (k * 8 + 1)
   have f2 := stp_frozen (unhide HO) (k * 8 + 2)
   have f3 := stp_frozen (unhide HO) (k * 8 + 3)
   have f4 := stp_frozen (unhide HO) (k * 8 + 4)
   have f5 := stp_frozen (unhide HO) (k * 8 + 5)
   have f6 := stp_frozen (unhide HO) (k * 8 + 6)
   have f7 := stp_frozen (unhide HO) (k * 8 + 7)
   have e2 : wr.cell? ⟨q, 2, none⟩ = some (.int .i64 4) := by
    have h : wr.cell? ⟨q, 2, none⟩ = some (.int .i64 c.tk) := ((unhide HD).below (by rw [← unhide HBASE]; exact unhide HBE)).kc.cell 2
    rw [unhide HTK] at h
    exact h
   obtain ⟨T, hT⟩ : ∃ T, T = ticksTo l1 k := ⟨_, rfl⟩
   have hTk : T ≤ 150 := by
    rw [hT]
    unfold ticksTo
    have h1 := ticksN_le (l1.take k)
    rw [List.length_take] at h1
    omega
   rw [← hT] at hst htt ⊢
   have HST := hide hst
   have HTT := hide htt
   have HWO := hide (loseAt_own (unhide HO) hol hsk)
   have HWB := hide (Below.only (unhide HBE) (loseAt_only wr g5 k) (fun x hx e => by omega) (by rw [unhide HBASE]; exact (unhide HBE).size))
   have HSK := hide hsk
   clear hs hst hsk htt hol hc hT hgb hgl
   by_cases h9 : s.kind = 9
   ·have g9 : (s.kind == 9) = true := by simp [h9]
    have HT2 := hide (show ticksTo l1 (k + 1) = T + 1 by rw [unhide HTT, if_pos h9])
    by_cases h4 : (4 : Int) < (T : Int) + 1
    ·have d4 : decide ((4 : Int) < (T : Int) + 1) = true := decide_eq_true h4
     have HN := hide (show firstTo 4 l1 (k + 1) = (firstTo 4 l1 k).set k stpLose by rw [unhide HST, if_pos ⟨h9, by omega⟩])
     clear h4
     go_wp2_with fail
     go_roundw
     case rel => exact ⟨k + 1, by omega, by go_num, by rw [unhide HT2]; go_num, by rw [unhide HN]; exact HWO, HWB⟩
     case measure => simp [intOf]; omega
    ·have d4 : decide ((4 : Int) < (T : Int) + 1) = false := decide_eq_false h4
     have HN := hide (show firstTo 4 l1 (k + 1) = firstTo 4 l1 k by
      rw [unhide HST, if_neg (fun e => h4 (by omega))]
      exact set_same (unhide HSK))
     clear h4
     go_wp2_with fail
     go_roundw
     case rel => exact ⟨k + 1, by omega, by go_num, by rw [unhide HT2]; go_num, by rw [unhide HN]; exact HO, HBE⟩
     case measure => simp [intOf]; omega
   ·have g9 : (s.kind == 9) = false := by simp [h9]
    have HN := hide (show firstTo 4 l1 (k + 1) = firstTo 4 l1 k by
     rw [unhide HST, if_neg (fun e => h9 e.1)]
     exact set_same (unhide HSK))
    have HT2 := hide (show ticksTo l1 (k + 1) = T by rw [unhide HTT, if_neg h9]; rfl)
    go_wp2_with fail
    go_roundw
    case rel => exact ⟨k + 1, by omega, by go_num, by rw [unhide HT2], by rw [unhide HN]; exact HO, HBE⟩
    case measure => simp [intOf]; omega
  ·obtain rfl : k = n5 := by omega
   obtain ⟨l4, hl4⟩ : ∃ l4, l4 = firstTo 4 l1 k := ⟨_, rfl⟩
   rw [← hl4] at HO
   have hlen4 : l4.length = k := by rw [hl4, firstTo_len 4 l1 k (by rw [← unhide HN5]; exact Nat.le_refl _)]; exact (unhide HN5).symm
   have hfull : l4 = firstL 4 0 l1 := by rw [hl4]; unfold firstTo; rw [unhide HN5, List.take_length, List.drop_length, List.append_nil]
   have hok4 : ∀ s ∈ l4, (0 ≤ s.id ∧ s.id ≤ 5000) ∧ (0 ≤ s.who ∧ s.who < 4) ∧ 0 ≤ s.label ∧ s.label < 3 := fun s hs => by
    rw [hfull] at hs
    rcases firstL_mem 4 l1 0 s hs with rfl | hs
    ·decide
    ·exact unhide HOK s hs
   have htk4 : ((0 + ticksN l4 : Nat) : Int) ≤ 4 := by
    have := firstL_ticks 4 l1 0
    rw [← hfull] at this
    omega
   have hD := (unhide HD).below (by rw [← unhide HBASE]; exact unhide HBE)
   have hls3 : (labelsP zs).length = 3 := labTo_len _ _
   obtain ⟨hcok, hcf⟩ := hD.cf.ok hls3 (labels_bounds zs)
   have hzs : c.la.zs = labelsP zs := by rw [hD.cf.la]
   have hn4 : c.n = 4 := by unfold Cfg.n; rw [hD.cf.br]; rfl
   obtain ⟨hT, hg0⟩ := unhide HTG
   have hTr : OrdT wr := fun j hj => (hD.bel.cell (p := ⟨_, j, none⟩) hg0).trans (hT j hj)
   have hgr : 0 < wr.heap.size := Nat.lt_of_lt_of_le hg0 hD.bel.size
   have hwf4 : ∀ s ∈ l4, stpWf s := fun s hs => WalkArith.wf_i64 (by have := hok4 s hs; omega)
   have HSEEN := hide (fun (A : Option Addr) (cc : Nat) (ss : List StpI) (W : World) (hW : Below wr.heap.size wr W) (hl : ss.length = k) (hr : Reads W W.heap.size 8 A k (ss.flatMap StpI.cells)) (hwf : ∀ s ∈ ss, stpWf s) =>
    seen_any c A k cc ss x W.heap.size W hl (by omega) hr hwf ((hcok.below hW).more hW.size) hcf (Nat.le_refl _) (fun j hj => (hW.cell (p := ⟨_, j, none⟩) hgr).trans (hTr j hj)) (Nat.lt_of_lt_of_le hgr hW.size) hx16 (by rw [hD.cf.br]; exact hx16))
   have HOTH := hide (fun (W : World) (hW : Below wr.heap.size wr W) (hr : Reads W W.heap.size 8 A5 k (l4.flatMap StpI.cells)) =>
    otherwise_any c A5 A2 k c5 n2 cc2 l4 es x W.heap.size W hlen4 (by omega) hr (unhide HL2) hm2 ((((unhide HR2).below (hD.bel.mono (unhide HBB))).below (hW.mono (Nat.le_trans (unhide HBB) hD.bel.size))).more (Nat.le_trans (Nat.le_trans (unhide HBB) hD.bel.size) hW.size)) ((hcok.below hW).more hW.size) (Nat.le_refl _) hx16 (fun s hs => (hok4 s hs).2) (by rw [hzs]; exact hls3) (by rw [hzs]; exact labels_bounds zs))
   have hkc := hD.kc
   have HKC := hide hkc
   have HO4 := hide (unhide HO)
   have HRR := hide (Reads.of_own (unhide HO))
   have HBR := hide hD.bel
   have HL4 := hide hlen4
   have HOK4 := hide hok4
   have HTK4 := hide htk4
   have HTGR := hide (And.intro hTr hgr)
   have HCFG := hide hcf
   have HN4 := hide hn4
   have HWF4 := hide hwf4
   have HOTHL := hide (show (otherP c x l4 es).length = k by unfold otherP; rw [otherTo_len]; exact hlen4)
   have HOTHW := hide (other_wf (c := c) (x := x) l4 es hwf4 (unhide HWE))
   have c0 : wr.cell? ⟨q, 0, none⟩ = some (.int .i64 c.br) := hkc.cell 0
   have c1 : wr.cell? ⟨q, 1, none⟩ = some (.slice c.la.A c.la.n c.la.c) := hkc.cell 1
   have c2 : wr.cell? ⟨q, 2, none⟩ = some (.int .i64 c.tk) := hkc.cell 2
   have c3 : wr.cell? ⟨q, 3, none⟩ = some (.slice c.mi.A c.mi.n c.mi.c) := hkc.cell 3
   have c4 : wr.cell? ⟨q, 4, none⟩ = some (.int .i64 c.cap) := hkc.cell 4
   have HS1 := hide ((unhide HSEEN) A5 c5 l4 wr (Below.refl _ _) hlen4 (unhide HRR) hwf4)
   unfold Cfg.val at HS1 HSEEN HOTH
   clear hl4 hlen4 hfull hok4 htk4 hD hls3 hcok hcf hzs hn4 hT hg0 hTr hgr hwf4 hkc HOK HN5 HTG HR2 HL2 HWE HBB HD HO HBE HBASE
   go_wp2_with fail
   refine (unhide HS1).mono ?_
   rintro _ w6 ⟨v6, u6, vs, us, rfl, hd6, hu6, hov, hou, hb6⟩
   have kc6 := (unhide HKC).below hb6 (unhide HKC).lt
   have HRR6 := hide ((unhide HRR).below hb6)
   have HB6 := hide hb6
   have HV6 := hide (And.intro hd6 hov)
   have e0 := fun m : Ext w6 => m.cell (show w6.cell? ⟨q, 0, none⟩ = some (.int .i64 c.br) from kc6.cell 0)
   have e1 := fun m : Ext w6 => m.cell (show w6.cell? ⟨q, 1, none⟩ = some (.slice c.la.A c.la.n c.la.c) from kc6.cell 1)
   have e2 := fun m : Ext w6 => m.cell (show w6.cell? ⟨q, 2, none⟩ = some (.int .i64 c.tk) from kc6.cell 2)
   have e3 := fun m : Ext w6 => m.cell (show w6.cell? ⟨q, 3, none⟩ = some (.slice c.mi.A c.mi.n c.mi.c) from kc6.cell 3)
   have e4 := fun m : Ext w6 => m.cell (show w6.cell? ⟨q, 4, none⟩ = some (.int .i64 c.cap) from kc6.cell 4)
   clear hd6 hu6 hov hou hb6 kc6 c0 c1 c2 c3 c4 HS1
   go_upto_region 13 with fail
   go_cut [21, 22, 23] (fun s21 s22 s23 W => s23 = .bool true ∧ Hid (∃ vs' : List Tol, vs'.map (·.d) = (runW c (otherP c x l4 es) (WS.new c)).1.map (maskD c.n x) ∧ OutT W w6.heap.size s21 vs' ∧ Below w6.heap.size w6 W))
   case first =>
    refine wp_region_calm_treeW [0, 1, 2, 3, 4, 6] [5, 7, 8, 9, 10, 11, 12, 13, 14] treeF1 (by kernel_rfl) (by kernel_rfl) (by intro c a d v w h; cases d <;> exact h) ?_
    simp only [pickOps, List.map_cons, List.map_nil, List.getD_cons_zero, List.getD_cons_succ]
    repeat (go_big_quiet_step (fail))
    refine wpQuiet_nil ?_
    clear e0 e1 e2 e3 e4
    have hd0 : Below w6.heap.size w6 w6.drew := (Below.refl _ w6).drew
    generalize w6.drew = wd at hd0 ⊢
    have hdr := (unhide HB6).trans (hd0.mono (unhide HB6).size)
    have HO7 := hide ((unhide HOTH) wd hdr (((unhide HRR).below hdr).more hdr.size))
    unfold treeF1
    refine wpT_step fun K0 hK0 => ?_
    simp only [pickOps, List.map_cons, List.map_nil, List.getD_cons_zero, List.getD_cons_succ]
    go_wp2_with fail
    refine (unhide HO7).mono ?_
    rintro _ w7 ⟨v7, rfl, ho7, hb7⟩
    have hd7 := hd0.trans (hb7.mono hd0.size)
    have hr7 := (unhide HB6).trans (hd7.mono (unhide HB6).size)
    unfold StpOwn at ho7
    rw [unhide HOTHL] at ho7
    obtain ⟨A7, c7, rfl, _⟩ := own_slice ho7
    have HS8 := hide ((unhide HSEEN) A7 c7 (otherP c x l4 es) w7 hr7 (unhide HOTHL) (Reads.of_own ho7) (unhide HOTHW))
    clear ho7 hb7 HO7 HOTH HSEEN
    go_wp2_with fail
    refine hK0 _ w7 (fun _ => ⟨⟨_, hd7⟩, rfl⟩) ?_
    clear hK0 K0
    refine wpT_step fun K0 hK0 => ?_
    simp only [pickOps, List.map_cons, List.map_nil, List.getD_cons_zero, List.getD_cons_succ]
    go_wp2_with fail
    refine (unhide HS8).mono ?_
    rintro _ w8 ⟨v8, u8, vs8, us8, rfl, hd8, hu8, hov8, hou8, hb8⟩
    have hd9 := hd7.trans (hb8.mono hd7.size)
    have HCUT := hide (show ∃ vs' : List Tol, vs'.map (·.d) = (runW c (otherP c x l4 es) (WS.new c)).1.map (maskD c.n x) ∧ OutT w8 w6.heap.size v8 vs' ∧ Below w6.heap.size w6 w8 from ⟨vs8, hd8, hov8.mono hd7.size, hd9⟩)
    clear hd8 hu8 hov8 hou8 hb8 HS8 hd7 hr7
    go_wp2_with fail
    refine hK0 _ w8 (fun _ => ⟨⟨_, hd9⟩, rfl⟩) ?_
    clear hK0 K0
    repeat' (first
     | (refine wpT_fork ?_ ?_)
     | (refine wpT_done ?_; go_wp2_with (fail); go_meet; exact ⟨rfl, HCUT⟩)
     | (refine wpT_step fun K0 hK0 => ?_; simp only [pickOps, List.map_cons, List.map_nil, List.getD_cons_zero, List.getD_cons_succ]; go_wp2_with (fail); refine hK0 _ w8 (fun _ => ⟨⟨_, hd9⟩, rfl⟩) ?_; clear hK0 K0))
   case rest =>
    obtain ⟨rfl, hc⟩ := hcut
    obtain ⟨vs', hd', ho', hb'⟩ := unhide hc
    obtain ⟨hd6, hov6⟩ := unhide HV6
    have hrc := (unhide HB6).trans (hb'.mono (unhide HB6).size)
    obtain ⟨hTr, hgr⟩ := unhide HTGR
    have HSU := hide (sure_any wc (fun j hj => (hrc.cell (p := ⟨_, j, none⟩) hgr).trans (hTr j hj)) (Nat.lt_of_lt_of_le hgr hrc.size))
    have hlaw : vs.map (·.d) = vs'.map (·.d) := by
     rw [hd6, hd']
     exact (runs_first (unhide HCFG) (other_alike (unhide HN4) l4 es (fun s hs => (unhide HOK4 s hs).2.1)) (WS.new c) (WS.new c) 0 0 (Rel.new c x) new_good new_good (new_okW (unhide HCFG)) (new_okW (unhide HCFG)) (fun j hj => by
      show (if j < c.m then stockB (BkS.new c.n) (c.mi.zs.getD j 0) else BkS.new c.n).round = _
      rw [if_pos hj]
      rfl) (by rw [unhide HTK]; exact unhide HTK4)).2
    have hlv : vs.length = k := by have := congrArg List.length hd6; rw [List.length_map, List.length_map, runW_len, unhide HL4] at this; exact this
    have hlv' : vs'.length = k := by have := congrArg List.length hlaw; rw [List.length_map, List.length_map, hlv] at this; exact this.symm
    have HOC := hide (And.intro hov6 ho')
    have HBC := hide (And.intro hb' ((unhide HBR).trans (hrc.mono (unhide HBR).size)))
    have HLAW := hide (And.intro hlaw (And.intro hlv hlv'))
    clear hd' ho' hb' hd6 hov6 hrc hTr hgr hlaw hlv hlv' hc HV6 e0 e1 e2 e3 e4
    go_wp2_with fail
    refine (unhide HSU).mono ?_
    rintro _ w9 ⟨rfl, hb9⟩
    obtain ⟨hov, ho'⟩ := unhide HOC
    obtain ⟨hbc, hbw⟩ := unhide HBC
    obtain ⟨hlaw, hlv, hlv'⟩ := unhide HLAW
    have HBW := hide (hbw.trans (hb9.mono hbw.size))
    obtain ⟨A8, c8, rfl, _, _, hr8, hok8⟩ := ((hov.below hbc).below hb9).at_
    obtain ⟨A9, c9, rfl, _, _, hr9, hok9⟩ := (ho'.below hb9).at_
    rw [hlv] at hr8 ⊢
    rw [hlv'] at hr9 ⊢
    obtain ⟨b9, hb9e⟩ : ∃ b9, b9 = w9.heap.size := ⟨_, rfl⟩
    rw [← hb9e] at hr8 hr9 hok8 hok9
    have HR8 := hide (And.intro hr8 (And.intro hr9 (And.intro hok8 hok9)))
    have HBE := hide hb9e
    have HB0 := hide (show Below b9 w9 w9 from Below.refl _ _)
    clear hov ho' hbc hbw hlaw hlv hlv' hb9 hr8 hr9 hok8 hok9 hb9e HSU HOC HBC
    go_wp2_with fail
    go_loopw [24] (fun i wq => ∃ k2 : Nat, k2 ≤ k ∧ i = .int .i64 k2 ∧ Hid (Below b9 w9 wq)) (fun i _ => k - (intOf i).toNat)
    case atStart => exact ⟨0, Nat.zero_le _, rfl, HB0⟩
    case round =>
     obtain ⟨k2, hk2, rfl, HBQ⟩ := hrel
     by_cases hlt2 : k2 < k
     ·have hi2 : (k2 : Int) < (k : Int) := by omega
      obtain ⟨hr8, hr9, hok8, hok9⟩ := unhide HR8
      obtain ⟨hlaw, hlv, hlv'⟩ := unhide HLAW
      obtain ⟨b8, o8, t8, rfl, hb8, ht8, hc8⟩ := at_row Tol.cells_len (by omega) (hr8.below (unhide HBQ)) hlt2 hlv
      obtain ⟨b7, o7, t7, rfl, hb7, ht7, hc7⟩ := at_row Tol.cells_len (by omega) (hr9.below (unhide HBQ)) hlt2 hlv'
      have hdd : t8.d = t7.d := by
       have h1 : (vs.map (·.d))[k2]? = some t8.d := by rw [List.getElem?_map, ht8]; rfl
       have h2 : (vs'.map (·.d))[k2]? = some t7.d := by rw [List.getElem?_map, ht7]; rfl
       rw [hlaw, h2] at h1
       injection h1 with h1
       exact h1.symm
      have hsz : b9 ≤ wr.heap.size := by rw [unhide HBE]; exact (unhide HBQ).size
      have HST := hide (fun n : Ext wr => sameTold_keep t8 t7 b9 n.W hdd ((hok8 t8 (List.mem_of_getElem? ht8)).below ((unhide HBQ).trans (n.h.mono hsz))) ((hok9 t7 (List.mem_of_getElem? ht7)).below ((unhide HBQ).trans (n.h.mono hsz))) (Nat.le_trans hsz n.h.size))
      unfold Tol.val at HST
      have x0 := fun n : Ext wr => n.cell (hc8 0 _ rfl)
      have y0 := fun n : Ext wr => n.cell (hc7 0 _ rfl)
      have x1 := fun n : Ext wr => n.cell (hc8 1 _ rfl)
      have y1 := fun n : Ext wr => n.cell (hc7 1 _ rfl)
      have x2 := fun n : Ext wr => n.cell (hc8 2 _ rfl)
      have y2 := fun n : Ext wr => n.cell (hc7 2 _ rfl)
      have x3 := fun n : Ext wr => n.cell (hc8 3 _ rfl)
      have y3 := fun n : Ext wr => n.cell (hc7 3 _ rfl)
      have x4 := fun n : Ext wr => n.cell (hc8 4 _ rfl)
      have y4 := fun n : Ext wr => n.cell (hc7 4 _ rfl)
      have x5 := fun n : Ext wr => n.cell (hc8 5 _ rfl)
      have y5 := fun n : Ext wr => n.cell (hc7 5 _ rfl)
      have x6 := fun n : Ext wr => n.cell (hc8 6 _ rfl)
      have y6 := fun n : Ext wr => n.cell (hc7 6 _ rfl)
      have x7 := fun n : Ext wr => n.cell (hc8 7 _ rfl)
      have y7 := fun n : Ext wr => n.cell (hc7 7 _ rfl)
      have x8 := fun n : Ext wr => n.cell (hc8 8 _ rfl)
      have y8 := fun n : Ext wr => n.cell (hc7 8 _ rfl)
      have x9 := fun n : Ext wr => n.cell (hc8 9 _ rfl)
      have y9 := fun n : Ext wr => n.cell (hc7 9 _ rfl)
      have x10 := fun n : Ext wr => n.cell (hc8 10 _ rfl)
      have y10 := fun n : Ext wr => n.cell (hc7 10 _ rfl)
      simp only [Nat.add_zero] at x0 y0
      clear hr8 hr9 hok8 hok9 hlaw hlv hlv' hc8 hc7 ht8 ht7 hdd hb8 hb7 hsz
      go_upto_region 19 with fail
      refine wp_region_calm (by kernel_rfl) (by kernel_rfl) ?_
      repeat (go_big_quiet_step ((go_at_call 20; exact calm_call (unhide HST _))))
      refine wpQuiet_nil ?_
      rintro _ ⟨nq, rfl⟩
      have HBN := hide ((unhide HBQ).trans (nq.h.mono (by rw [unhide HBE]; exact (unhide HBQ).size)))
      clear x0 x1 x2 x3 x4 x5 x6 x7 x8 x9 x10 y0 y1 y2 y3 y4 y5 y6 y7 y8 y9 y10
      go_wp2_with fail
      go_roundw
      case rel => exact ⟨k2 + 1, by omega, by go_num, HBN⟩
      case measure => simp [intOf]; omega
     ·obtain rfl : k2 = k := by omega
      go_wp2_with fail
      go_ret
      exact ⟨rfl, (unhide HBW).trans ((unhide HBQ).mono (by rw [unhide HBE]; exact (unhide HBW).size))⟩
end
end Go.Proofs.YtbolcebmbpepdaaGreatDoor
