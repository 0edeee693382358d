/- Contracts and plain facts, set together by program out of smaller texts. Conditions: none beyond what each theorem states. -/
import Derived.Test.YtbolcebmbpepdaaDoorM37
import Derived.Test.YtbolcebmbpepdaaDoorM49
namespace Go.Proofs.YtbolcebmbpepdaaDoor
set_option linter.unusedVariables false
section
open Go.RowKit
theorem labelsP_len (zs : List Int) : (labelsP zs).length = 3 := by
  unfold labelsP
  exact labTo_len _ _
theorem or_bits0 : ((List.range 16).all fun l => (List.range 4).all fun a => (List.range 4).all fun b =>
    let v := bits .or .i64 (l : Int) (bits .or .i64 (wrap64 (2 ^ a)) (wrap64 (2 ^ b)))
    decide (0 ≤ v) && decide (v < 16) && v.toNat.testBit a && v.toNat.testBit b) = true := by kernel_rfl
theorem or_bits {lab : Int} (h : 0 ≤ lab ∧ lab < 16) {a b : Nat} (ha : a < 4) (hb : b < 4) : ∃ v, v = bits .or .i64 lab (bits .or .i64 (wrap64 (2 ^ a)) (wrap64 (2 ^ b))) ∧ (0 ≤ v ∧ v < 16) ∧ v.toNat.testBit a = true ∧ v.toNat.testBit b = true := by
  refine ⟨_, rfl, ?_⟩
  have h1 := List.all_eq_true.1 (List.all_eq_true.1 (List.all_eq_true.1 or_bits0 lab.toNat (List.mem_range.2 (by omega))) a (List.mem_range.2 ha)) b (List.mem_range.2 hb)
  rw [Int.toNat_of_nonneg h.1] at h1
  simp only [Bool.and_eq_true, decide_eq_true_eq] at h1
  exact ⟨h1.1.1, h1.1.2, h1.2⟩
theorem CfgNew.below {W W' : World} {B : Nat} {c : Cfg} {g h : Nat} {ls : List Int} {ticks minted most : Int} (H : CfgNew W B c g h ls ticks minted most) (hb : Below W.heap.size W W') : CfgNew W' B c g h ls ticks minted most :=
  ⟨H.br, H.la, H.tk, H.mi, H.cap, Blk.below H.rg hb (Blk.lt H.rg), Blk.below H.rh hb (Blk.lt H.rh), H.low, H.ne⟩
/-- the call's own config, its cells and rows -/
structure ToldAt (w W : World) (q : Nat) (c : Cfg) (g h : Nat) (ls : List Int) : Prop where
  bel : Below w.heap.size w W
  kc : Blk W q 25 c.cells.toArray
  cf : CfgNew W w.heap.size c g h ls 1 50 5
theorem ToldAt.below {w W W' : World} {q g h : Nat} {c : Cfg} {ls : List Int} (H : ToldAt w W q c g h ls) (hb : Below W.heap.size W W') : ToldAt w W' q c g h ls :=
  ⟨H.bel.trans (hb.mono H.bel.size), H.kc.below hb H.kc.lt, H.cf.below hb⟩
theorem stepsTo_ids (ds : List StpI) : ∀ k, k ≤ 80 → ∀ s ∈ stepsTo ds k, 0 ≤ s.id ∧ s.id ≤ 2000
  | 0, _, s, h => by cases h
  | k + 1, hk, s, h => by
    rw [stepsTo] at h
    rcases List.mem_append.1 h with h | h
    · exact stepsTo_ids ds k (by omega) s h
    · rw [List.mem_singleton] at h
      have hf := framesN_le (stepsTo ds k)
      rw [stepsTo_len] at hf
      obtain ⟨f, hff⟩ : ∃ f, f = framesN (stepsTo ds k) := ⟨_, rfl⟩
      rw [← hff] at h hf
      subst h
      obtain ⟨d, hd⟩ : ∃ d, d = ds.getD k stpZero := ⟨_, rfl⟩
      rw [← hd]
      have h1 : 0 ≤ d.id % ((f : Int) + 1) := Int.emod_nonneg _ (by omega)
      have h2 : d.id % ((f : Int) + 1) < f + 1 := Int.emod_lt_of_pos _ (by omega)
      unfold stepOfP
      dsimp only
      repeat' split
      all_goals first | (unfold stpTick; dsimp only; omega) | (unfold stpDel; dsimp only; omega) | (dsimp only; omega)
theorem full_ids {l : List StpI} (hl : l.length ≤ 200) (h : ∀ s ∈ l, 0 ≤ s.id ∧ s.id ≤ 10000) : ∀ s ∈ fullP l, 0 ≤ s.id ∧ s.id ≤ 10000 := by
  intro s hs
  have hf := framesN_le l
  unfold fullP fullTo at hs
  rcases List.mem_append.1 hs with hs | hs
  · exact h s hs
  · rcases List.mem_cons.1 hs with rfl | hs
    · unfold stpTick; dsimp only; omega
    · obtain ⟨i, hi, rfl⟩ := List.mem_map.1 hs
      have := List.mem_range.1 hi
      unfold stpDel
      dsimp only
      omega
theorem told_ids (l : List StpI) (hl : l.length ≤ 80) (h : ∀ s ∈ l, 0 ≤ s.id ∧ s.id ≤ 2000) (w b k : Nat) (key v : Int) : ∀ s ∈ toldSteps l w b k key v, stpWf s := by
  have h1 : ∀ s ∈ l, 0 ≤ s.id ∧ s.id ≤ 10000 := fun s hs => by have := h s hs; omega
  have h2 := full_ids (by omega) h1
  have h3 := full_ids (by unfold fullP; rw [fullTo_len]; omega) h2
  have h4 : ∀ s ∈ fullP (fullP l) ++ [stpPut w k key v], 0 ≤ s.id ∧ s.id ≤ 10000 := fun s hs => by
    rcases List.mem_append.1 hs with hs | hs
    · exact h3 s hs
    · rw [List.mem_singleton] at hs
      rw [hs]
      unfold stpPut
      dsimp only
      omega
  have h5 := full_ids (by unfold fullP; rw [List.length_append, fullTo_len, fullTo_len, List.length_singleton]; omega) h4
  intro s hs
  have h6 : 0 ≤ s.id ∧ s.id ≤ 10000 := by
    unfold toldSteps at hs
    rcases List.mem_append.1 hs with hs | hs
    · exact h5 s hs
    · rw [List.mem_singleton] at hs
      rw [hs]
      unfold stpGet
      dsimp only
      omega
  exact WalkArith.wf_i64 (by omega)
theorem stp_snoc {w : World} {base n g cap : Nat} {l : List StpI} (s : StpI) (h : w.ownsRow base 32 8 (.slice (some ⟨g, 0, none⟩) (n + 1) cap) (n + 1) (l.flatMap StpI.cells ++ s.cells)) : w.ownsRow base 32 8 (.slice (some ⟨g, 0, none⟩) (n + 1) cap) (n + 1) ((l ++ [s]).flatMap StpI.cells) := by
  rw [List.flatMap_append]
  simpa using h
def PlayedAt (wo : World) (L : TolD) (m : Nat) (e : Ending) (W' : World) (W : World) : Prop :=
  ∃ (v : Value) (outs : List Tol) (ts : List TolD), e = .returned (.tuple #[v, .int .i64 0]) ∧ outs.length = m ∧ outs.map (·.d) = ts ++ [L] ∧ OutT W' W.heap.size v outs ∧ Below W.heap.size W W'
def ToldCut (wd : World) (L : TolD) (m : Nat) (v : Value) (W' : World) : Prop :=
  ∃ (outs : List Tol) (ts : List TolD) (base : Nat), outs.length = m ∧ outs.map (·.d) = ts ++ [L] ∧ OutT W' base v outs ∧ Below wd.heap.size wd W'
set_option maxRecDepth 100000 in
set_option maxHeartbeats 4000000 in
theorem topTold_any (A A2 : Option Addr) (n cc n2 cc2 : Nat) (zs : List Int) (ds : List StpI) (who label key value by_ : Int) (B : Nat) (w : World) (hl : zs.length = n) (hm : n ≤ maxLen) (hr : Reads w B 1 A n (zs.map (.int .i64)))
    (hl2 : ds.length = n2) (hm2 : n2 ≤ maxLen) (hr2 : Reads w B 8 A2 n2 (ds.flatMap StpI.cells)) (hB : B ≤ w.heap.size) (hT : OrdT w) (hg : 0 < w.heap.size) :
    Calls Tryd.prog 3 #[.slice A n cc, .slice A2 n2 cc2, .int .i64 who, .int .i64 label, .int .i64 key, .int .i64 value, .int .i64 by_] w fun e w' => e = .returned (.bool true) ∧ Below w.heap.size w w' := by
  have HCF := hide (configOf_any A n cc zs 1 50 5 B w hl hm hr hB)
  have HR2 := hide hr2
  have HP4 := hide (fun a W => picked_any a 4 W (by omega))
  have HP3 := hide (fun a W => picked_any a 3 W (by omega))
  have HP256 := hide (fun a W => picked_any a 256 W (by omega))
  have HTG := hide (And.intro hT hg)
  obtain ⟨wi, hwi, hwi4⟩ : ∃ wi : Nat, (wi : Int) = who % 4 ∧ wi < 4 := ⟨(who % 4).toNat, by omega, by omega⟩
  obtain ⟨bi, hbi, hbi4⟩ : ∃ bi : Nat, (bi : Int) = by_ % 4 ∧ bi < 4 := ⟨(by_ % 4).toNat, by omega, by omega⟩
  obtain ⟨k, hk, hk3⟩ : ∃ k : Nat, (k : Int) = label % 3 ∧ k < 3 := ⟨(label % 3).toNat, by omega, by omega⟩
  have HWI := hide hwi
  have HBI := hide hbi
  have HK := hide hk
  clear hwi hbi hk hT hg hr hr2 hl hm
  go_enter Tryd.func3, Tryd.ntmps3
  go_wp2_with fail
  refine (unhide HCF).mono ?_
  rintro _ w1 ⟨c, g, h, rfl, hcf, hb1⟩
  have HC1 := hide hcf
  have HB1 := hide hb1
  clear hcf hb1 HCF
  unfold Cfg.val
  go_upto_region 2 with fail
  rw [show (#[.int .i64 c.br, .slice c.la.A c.la.n c.la.c, .int .i64 c.tk, .slice c.mi.A c.mi.n c.mi.c, .int .i64 c.cap] : Array Value) = c.cells.toArray from rfl]
  obtain ⟨wc, hwc⟩ : ∃ wc, wc = w1.alloc (.cells c.cells.toArray 25) := ⟨_, rfl⟩
  obtain ⟨q, hq⟩ : ∃ q, q = w1.heap.size := ⟨_, rfl⟩
  have hbc : Below w1.heap.size w1 wc := by rw [hwc]; exact (Below.refl _ _).alloc (Nat.le_refl _) _
  have kc : Blk wc q 25 c.cells.toArray := by rw [hwc, hq]; exact Blk.new _ _ _
  have HC := hide ((unhide HC1).below hbc)
  have HBC := hide ((unhide HB1).trans (hbc.mono (unhide HB1).size))
  have HNE := hide (show g ≠ q by have := Blk.lt (unhide HC1).rg; omega)
  have HKC := hide kc
  rw [← hwc, ← hq]
  clear hwc hq hbc kc HB1 HC1
  go_wp2_with fail
  refine (unhide HP4 _ _).mono ?_
  rintro _ _ ⟨rfl, rfl⟩
  rw [← unhide HWI]
  go_wp2_with fail
  refine (unhide HP4 _ _).mono ?_
  rintro _ _ ⟨rfl, rfl⟩
  rw [← unhide HBI]
  go_wp2_with fail
  refine (unhide HP3 _ _).mono ?_
  rintro _ _ ⟨rfl, rfl⟩
  rw [← unhide HK]
  go_upto_region 5 with fail
  obtain ⟨lab, hlab, hl16⟩ : ∃ lab : Int, (labelsP zs)[k]? = some lab ∧ 0 ≤ lab ∧ lab < 16 := by
    have e : k < (labelsP zs).length := by rw [labelsP_len]; exact hk3
    exact ⟨_, List.getElem?_eq_getElem e, labels_bounds zs _ (List.getElem_mem e)⟩
  have e0 : wc.cell? ⟨q, 1, none⟩ = some (.slice (some ⟨g, 0, none⟩) 3 3) := by have e : wc.cell? ⟨q, 1, none⟩ = some (.slice c.la.A c.la.n c.la.c) := (unhide HKC).cell 1; rw [(unhide HC).la] at e; exact e
  have e1 : wc.cell? ⟨g, k, none⟩ = some (.int .i64 lab) := (unhide HC).rg.cell hlab
  have e2 : wc.frozen? ⟨g, k, none⟩ = false := (unhide HC).rg.frozen k
  have hk3' : (k : Int) < 3 := by omega
  have hlab' := hide hlab
  clear hlab
  refine wp_region_draw_tail 12 (by kernel_rfl) (by kernel_rfl) ?_
  simp only [List.take_succ_cons, List.take_zero, List.drop_succ_cons, List.drop_zero]
  repeat (go_big_quiet_step (fail))
  refine wpQuiet_nil ?_
  rintro _ ⟨nq, rfl⟩
  obtain ⟨v, hv, hv16, hva, hvb⟩ := or_bits hl16 hwi4 hbi4
  rw [← hv]
  go_upto_region 6 with fail
  obtain ⟨c', hc'⟩ : ∃ c' : Cfg, c' = { c with la := ⟨c.la.A, c.la.n, c.la.c, (labelsP zs).set k v⟩ } := ⟨_, rfl⟩
  obtain ⟨wd, hwd⟩ : ∃ wd, wd = (wc.drewN nq).setCell ⟨g, k, none⟩ (.int .i64 v) := ⟨_, rfl⟩
  have hgl := (unhide HC).low
  have hsz := (unhide HBC).size
  have hon : Only (fun x => x = g) (wc.drewN nq) wd := by rw [hwd]; exact only_put (Only.refl _ _) k _
  have HD : Hid (ToldAt w wd q c' g h ((labelsP zs).set k v)) := by
    have hbn : Below wc.heap.size wc (wc.drewN nq) := below_drewN (Below.refl _ _) _
    have hC2 := (unhide HC).below hbn
    have hK2 := (unhide HKC).below hbn (unhide HKC).lt
    refine hide ⟨Below.only ((unhide HBC).trans (hbn.mono hsz)) hon (fun x hx e => by omega) hsz, ?_, ?_⟩
    · rw [hc']
      exact hK2.only hon (fun e => unhide HNE e.symm)
    · rw [hc']
      refine ⟨hC2.br, ?_, hC2.tk, hC2.mi, hC2.cap, ?_, Blk.only hC2.rh hon (fun e => hC2.ne e.symm), hC2.low, hC2.ne⟩
      · rw [hC2.la]
      · rw [hwd]
        exact IRow.set_ hC2.rg (by rw [labelsP_len]; exact hk3) v
  have HCE := hide hc'
  have HV := hide (And.intro hv16 (And.intro hva hvb))
  rw [← hv, ← hwd]
  obtain ⟨base, hbase⟩ : ∃ base, base = wd.heap.size := ⟨_, rfl⟩
  have hbw : w.heap.size ≤ base := by rw [hbase]; exact (unhide HD).bel.size
  have HSO := hide (stepsOf_any A2 n2 cc2 80 ds B wd hl2 hm2 (by omega) ((unhide HR2).below ((unhide HD).bel.mono hB)) (Nat.le_trans hB (unhide HD).bel.size))
  rw [← hbase] at HSO
  have HBASE := hide hbase
  obtain ⟨l1, hl1⟩ : ∃ l1, l1 = stepsP ds 80 := ⟨_, rfl⟩
  rw [← hl1] at HSO
  have hlen1 : l1.length ≤ 80 := by rw [hl1]; unfold stepsP; rw [stepsTo_len]; omega
  have HID := hide (show ∀ s ∈ l1, 0 ≤ s.id ∧ s.id ≤ 2000 by rw [hl1]; exact stepsTo_ids ds _ (by omega))
  obtain ⟨it, hit, ht0, ht1, ht2⟩ := step_info
  clear hv hv16 hva hvb hc' hwd hgl hsz hon e0 e1 e2 HC HKC HNE HBC HR2 hl2 hm2 hB hl1 hl16 hlab' hbase
  have HBE0 := hide (show Below base wd wd from Below.refl _ _)
  go_wp2_with fail
  refine (unhide HSO).mono ?_
  rintro _ w2 ⟨v2, rfl, ho2, hb2⟩
  obtain ⟨A3, c3, rfl, _⟩ := own_slice ho2
  have HF2 := hide (full_any A3 l1.length c3 l1 w2.heap.size w2 rfl (by omega) (Reads.of_own ho2) (Nat.le_refl _))
  have hs2 : base ≤ w2.heap.size := by rw [unhide HBASE]; exact hb2.size
  clear ho2
  go_wp2_with fail
  refine (unhide HF2).mono ?_
  rintro _ w3 ⟨v3, rfl, ho3, hb3⟩
  have hb3' := hb2.trans (hb3.mono hs2)
  have hs3 : base ≤ w3.heap.size := by rw [unhide HBASE]; exact hb3'.size
  obtain ⟨l2, hl2⟩ : ∃ l2, l2 = fullP l1 := ⟨_, rfl⟩
  rw [← hl2] at ho3
  have hlen2 : l2.length ≤ 101 := by rw [hl2]; unfold fullP; rw [fullTo_len]; omega
  obtain ⟨A4, c4, rfl, _⟩ := own_slice ho3
  have HL2 := hide hl2
  clear hl2
  have HF3 := hide (full_any A4 l2.length c4 l2 w3.heap.size w3 rfl (by omega) (Reads.of_own ho3) (Nat.le_refl _))
  clear ho3 hb3 hb2 hs2 HF2 HSO
  go_wp2_with fail
  refine (unhide HF3).mono ?_
  rintro _ w4 ⟨v4, rfl, ho4, hb4⟩
  have hb4' := hb3'.trans (hb4.mono hs3)
  have hs4 : base ≤ w4.heap.size := by rw [unhide HBASE]; exact hb4'.size
  obtain ⟨l3, hl3⟩ : ∃ l3, l3 = fullP l2 := ⟨_, rfl⟩
  rw [← hl3] at ho4
  have hlen3 : l3.length ≤ 122 := by rw [hl3]; unfold fullP; rw [fullTo_len]; omega
  obtain ⟨A5, c5, rfl, _⟩ := own_slice ho4
  obtain ⟨n5, hn5⟩ : ∃ n5, n5 = l3.length := ⟨_, rfl⟩
  have how4 := own_mono ho4 hs3
  rw [← hn5] at how4 hlen3 ⊢
  have HW4 := hide how4
  have HB4 := hide hb4'
  have HN5 := hide hn5
  have HL3 := hide hl3
  have HMQ := hide (show (n5 + 1) * 64 ≤ 140737488355328 by omega)
  clear ho4 hb4 hb4' hb3' hs3 HF3 how4 hn5 hl3
  go_wp2_with fail
  refine (unhide HP4 _ _).mono ?_
  rintro _ _ ⟨rfl, rfl⟩
  go_wp2_with fail
  refine (unhide HP256 _ _).mono ?_
  rintro _ _ ⟨rfl, rfl⟩
  go_wp2_with (first
    | (at_builtin; (refine wpList_append_new w4 rfl (.tmp 47) (.tmp 55) _ rfl base 32 it _ 8 64 Tryd.underlying28 hit ht0 ht1 ht2 rfl (by omega) (by omega) _ n5 _ (unhide HW4) rfl _ 1 _ rfl rfl rfl (by simp [Value.oneCell']) (unhide HMQ) hs4 ?_); intro g6 cap6 w6 hg6 hown6 hbel6 hgr6 hat6
       have HB6 := hide (hbel6 base wd (Nat.le_refl _) (unhide HB4))
       have HS6 := hide (stp_snoc (stpPut wi k (key % 4) (value % 256)) hown6)
       clear hg6 hown6 hbel6 hgr6 hat6 hs4))
  obtain ⟨l6, hl6⟩ : ∃ l6, l6 = l3 ++ [stpPut wi k (key % 4) (value % 256)] := ⟨_, rfl⟩
  rw [← hl6] at HS6
  have hlen6 : l6.length = n5 + 1 := by rw [hl6, List.length_append, ← unhide HN5]; rfl
  have HL6 := hide hl6
  have HF6 := hide (full_any (some ⟨g6, 0, none⟩) (n5 + 1) cap6 l6 w6.heap.size w6 hlen6 (by omega) (Reads.of_own (unhide HS6)) (Nat.le_refl _))
  have hs6 : base ≤ w6.heap.size := by rw [unhide HBASE]; exact (unhide HB6).size
  clear hl6 HW4 HB4 HMQ
  refine (unhide HF6).mono ?_
  rintro _ w7 ⟨v7, rfl, ho7, hb7⟩
  obtain ⟨l7, hl7⟩ : ∃ l7, l7 = fullP l6 := ⟨_, rfl⟩
  rw [← hl7] at ho7
  have hlen7 : l7.length ≤ 144 := by rw [hl7]; unfold fullP; rw [fullTo_len]; omega
  have HL7 := hide hl7
  obtain ⟨A7, c7, rfl, _⟩ := own_slice ho7
  obtain ⟨n7, hn7⟩ : ∃ n7, n7 = l7.length := ⟨_, rfl⟩
  have how7 := own_mono ho7 hs6
  rw [← hn7] at how7 hlen7 ⊢
  have hb7' := (unhide HB6).trans (hb7.mono hs6)
  have hs7 : base ≤ w7.heap.size := by rw [unhide HBASE]; exact hb7'.size
  have HW7 := hide how7
  have HB7 := hide hb7'
  have HN7 := hide hn7
  have HMQ := hide (show (n7 + 1) * 64 ≤ 140737488355328 by omega)
  clear hl7 ho7 hb7 hb7' how7 hn7 HF6 hlen6 hs6 HS6 HB6
  go_wp2_with fail
  refine (unhide HP4 _ _).mono ?_
  rintro _ _ ⟨rfl, rfl⟩
  go_upto_region 9 with (first
    | (at_builtin; (refine wpList_append_new w7 rfl (.tmp 58) (.tmp 64) _ rfl base 32 it _ 8 64 Tryd.underlying28 hit ht0 ht1 ht2 rfl (by omega) (by omega) _ n7 _ (unhide HW7) rfl _ 1 _ rfl rfl rfl (by simp [Value.oneCell']) (unhide HMQ) hs7 ?_); intro g8 cap8 w8 hg8 hown8 hbel8 hgr8 hat8
       have HB8 := hide (hbel8 base wd (Nat.le_refl _) (unhide HB7))
       have HS8 := hide (stp_snoc (stpGet bi k (key % 4)) hown8)
       clear hg8 hown8 hbel8 hgr8 hat8 hs7))
  obtain ⟨l8, hl8⟩ : ∃ l8, l8 = l7 ++ [stpGet bi k (key % 4)] := ⟨_, rfl⟩
  rw [← hl8] at HS8
  have hl8n : l8.length = n7 + 1 := by rw [hl8, List.length_append, ← unhide HN7]; rfl
  have hl8e : l8 = toldSteps l1 wi bi k (key % 4) (value % 256) := by
    unfold toldSteps
    rw [hl8, unhide HL7, unhide HL6, unhide HL3, unhide HL2]
  have HWF := hide (show ∀ s ∈ l8, stpWf s by rw [hl8e]; exact told_ids l1 hlen1 (unhide HID) wi bi k _ _)
  obtain ⟨hv16, hva, hvb⟩ := unhide HV
  have hls : ∀ z ∈ (labelsP zs).set k v, 0 ≤ z ∧ z < 16 := fun z hz => by
    rcases List.mem_or_eq_of_mem_set hz with hz | rfl
    · exact labels_bounds zs z hz
    · exact hv16
  have hlsl : ((labelsP zs).set k v).length = 3 := by rw [List.length_set]; exact labelsP_len zs
  have hc8 := (unhide HD).below (by rw [← unhide HBASE]; exact unhide HB8)
  obtain ⟨hok, hcf⟩ := hc8.cf.ok hlsl hls
  have hzs : c'.la.zs = (labelsP zs).set k v := by rw [hc8.cf.la]
  have hgd : c'.la.zs.getD k 0 = v := by rw [hzs, List.getD_eq_getElem?_getD, List.getElem?_set_self (by rw [labelsP_len]; exact hk3)]; rfl
  have hlaw : ∃ ts, (runW c' l8 (WS.new c')).1 = ts ++ [⟨0, bi, Stk.none, value % 256, [], [], []⟩] := by
    rw [hl8e]
    refine told_law hcf (by unfold Cfg.n; rw [hc8.cf.br]; rfl) l1 hlen1 wi bi k (key % 4) (value % 256) hwi4 hbi4 (by unfold Cfg.ln; rw [hzs, hlsl]; exact hk3) (by omega) (by omega) ?_ ?_
    · unfold inL
      rw [hgd]
      exact hva
    · unfold inL
      rw [hgd]
      exact hvb
  have HPP := hide (show playP c' l8 = ((runW c' l8 (WS.new c')).1, 0) from (if_neg (by rw [hcf]; simp)).trans (if_neg (by omega)))
  have HLAW := hide hlaw
  obtain ⟨hT, hg0⟩ := unhide HTG
  have hbw8 := hc8.bel
  have hT8 : OrdT w8 := fun j hj => (hbw8.cell (p := ⟨_, j, none⟩) hg0).trans (hT j hj)
  have hg8 : 0 < w8.heap.size := Nat.lt_of_lt_of_le hg0 hbw8.size
  have HPL := hide (fun (A : Option Addr) (cc : Nat) (W : World) (hW : Below w8.heap.size w8 W) (hr : Reads W W.heap.size 8 A (n7 + 1) (l8.flatMap StpI.cells)) =>
    show Calls Tryd.prog 8 #[c'.val, .slice A (n7 + 1) cc] W (fun e w' => PlayedAt w8 ⟨0, bi, Stk.none, value % 256, [], [], []⟩ (n7 + 1) e w' W) from
    (worldPlay_any (w := W) (c := c') A (n7 + 1) cc l8 W.heap.size hl8n (by unfold maxLen; omega) hr (unhide HWF) ((hok.below hW).more hW.size) (Nat.le_refl _) (fun j hj => (hW.cell (p := ⟨_, j, none⟩) hg8).trans (hT8 j hj)) (Nat.lt_of_lt_of_le hg8 hW.size)).mono (by
      rintro e w' ⟨v0, outs, rfl, hd, ho, hb⟩
      rw [unhide HPP] at hd ⊢
      obtain ⟨ts, hts⟩ := unhide HLAW
      refine ⟨v0, outs, ts, rfl, ?_, by rw [hd, hts], ho, hb⟩
      have := congrArg List.length hd
      rw [List.length_map, runW_len, hl8n] at this
      exact this))
  have hb0 := hc8.kc
  have HBW8 := hide hbw8
  have h1c : ∀ u ∈ l8.flatMap StpI.cells, u.oneCell' = true := fun u hu => by
    obtain ⟨s, _, hs⟩ := List.mem_flatMap.1 hu
    unfold StpI.cells at hs
    simp at hs
    rcases hs with rfl | rfl | rfl | rfl | rfl | rfl | rfl | rfl <;> rfl
  have H1C := hide h1c
  have hla := hc8.cf.la
  have hmi := hc8.cf.mi
  have e0 := fun m : Ext w8 => m.cell (show w8.cell? ⟨q, 0, none⟩ = some (.int .i64 c'.br) from hb0.cell 0)
  have e1 := fun m : Ext w8 => m.cell (show w8.cell? ⟨q, 1, none⟩ = some (.slice c'.la.A c'.la.n c'.la.c) from hb0.cell 1)
  have e2 := fun m : Ext w8 => m.cell (show w8.cell? ⟨q, 2, none⟩ = some (.int .i64 c'.tk) from hb0.cell 2)
  have e3 := fun m : Ext w8 => m.cell (show w8.cell? ⟨q, 3, none⟩ = some (.slice c'.mi.A c'.mi.n c'.mi.c) from hb0.cell 3)
  have e4 := fun m : Ext w8 => m.cell (show w8.cell? ⟨q, 4, none⟩ = some (.int .i64 c'.cap) from hb0.cell 4)
  have HRD := hide (Reads.of_own (unhide HS8))
  have HNIL := hide (fun W => World.ownsRow_nil W w8.heap.size 32 8)
  have HN63 := hide (show 0 + (n7 + 1) ≤ maxLen by unfold maxLen; omega)
  have HW7N := hide (show wrap64 (n7 : Int) = n7 by unfold wrap64; omega)
  have HNB := hide (show (0 + (n7 + 1)) * 64 ≤ 140737488355328 by omega)
  unfold Cfg.val at HPL
  clear hl8 hl8n hl8e hv16 hva hvb hls hlsl hc8 hok hcf hzs hgd hlaw hT hg0 hbw8 hT8 hg8 hb0 h1c hla hmi HV HD HCE HID HL2 HL3 HL6 HL7 HN5 HN7 HPP HLAW HWF HTG hlen1 hlen2 hlen3 hlen7 HW7 HB7 HMQ HS8 HB8
  go_cut [20, 21] (fun s20 s21 W => s21 = .int .i64 0 ∧ Hid (ToldCut w8 ⟨0, bi, Stk.none, value % 256, [], [], []⟩ (n7 + 1) s20 W))
  case first =>
    refine wp_region_calm_treeW [0, 1] [2, 3, 4, 5, 6, 7, 8] (.next 2 (treeA 3)) (by kernel_rfl) (by kernel_rfl) (by intro c a d v w h; cases d <;> exact h) ?_
    simp only [pickOps, List.map_cons, List.map_nil, List.getD_cons_zero, List.getD_cons_succ]
    repeat (go_big_quiet_step (fail))
    refine wpQuiet_nil ?_
    clear e0 e1 e2 e3 e4
    have hd0 : Below w8.heap.size w8 w8.drew := (Below.refl _ w8).drew
    generalize w8.drew = w9 at hd0 ⊢
    refine wpT_step fun K0 hK0 => ?_
    simp only [pickOps, List.map_cons, List.map_nil, List.getD_cons_zero, List.getD_cons_succ]
    have hrd9 := hide ((unhide HRD).below hd0)
    have hs9 : w8.heap.size ≤ w9.heap.size := hd0.size
    go_wp2_with (first
      | (at_builtin; (refine wpList_append_any _ rfl (.const (.slice none 0 0)) (.tmp 68) _ rfl w8.heap.size 32 it _ 8 64 Tryd.underlying28 hit ht0 ht1 ht2 rfl (by omega) (.slice none 0 0) 0 _ rfl (unhide HNIL _) w8.heap.size (some ⟨g8, 0, none⟩) (n7 + 1) cap8 (l8.flatMap StpI.cells) rfl (unhide hrd9) (unhide H1C) (unhide HN63) (unhide HNB) hs9 ?_); intro v10 w10 hown10 hgr10 hat10
         obtain ⟨A10, c10, hv10, _⟩ := own_slice hown10
         subst hv10
         rw [Nat.zero_add] at hown10
         have hb10 := below_of_none' hgr10
         clear hgr10 hat10))
    have hb11 := hd0.trans (hb10.mono hs9)
    refine hK0 _ w10 (fun _ => ⟨⟨_, hb11⟩, rfl⟩) ?_
    clear hK0 K0
    unfold treeA
    refine wpT_step fun K0 hK0 => ?_
    simp only [pickOps, List.map_cons, List.map_nil, List.getD_cons_zero, List.getD_cons_succ]
    have HC9 := hide ((unhide HPL) A10 c10 w10 hb11 (Reads.of_own hown10))
    clear HPL hown10 hrd9 HRD HNIL HN63 HNB H1C
    go_wp2_with fail
    refine (unhide HC9).mono ?_
    rintro _ w11 ⟨v11, outs, ts, rfl, hlen, hd, ho, hb⟩
    have hd11 := hb11.trans (hb.mono hb11.size)
    have HCUT := hide (show ToldCut w8 ⟨0, bi, Stk.none, value % 256, [], [], []⟩ (n7 + 1) v11 w11 from ⟨outs, ts, _, hlen, hd, ho, hd11⟩)
    clear hlen hd ho hb hb10 hb11 hs9 hd0 HC9
    go_wp2_with fail
    refine hK0 _ w11 (fun _ => ⟨⟨_, hd11⟩, rfl⟩) ?_
    clear hK0 K0
    repeat' (first
      | (refine wpT_fork ?_ ?_)
      | (refine wpT_done ?_; go_wp2_with (fail); go_meet; exact ⟨rfl, HCUT⟩)
      | (refine wpT_step fun K0 hK0 => ?_; simp only [pickOps, List.map_cons, List.map_nil, List.getD_cons_zero, List.getD_cons_succ]; go_wp2_with (fail); refine hK0 _ w11 (fun _ => ⟨⟨_, hd11⟩, rfl⟩) ?_; clear hK0 K0))
  case rest =>
    obtain ⟨rfl, hc⟩ := hcut
    obtain ⟨outs, ts, base2, hlen, hd, ho, hb⟩ := unhide hc
    obtain ⟨A3, c3, rfl, hcc, hcm, hrd, hok⟩ := ho.at_
    rw [hlen] at hrd hcc ⊢
    obtain ⟨bt, ot, t, rfl, hbt, ht, hct⟩ := at_row Tol.cells_len (by omega) hrd (k := n7) (by omega) hlen
    have htd : t.d = ⟨0, bi, Stk.none, value % 256, [], [], []⟩ := by
      have h1 : (outs.map (·.d))[n7]? = some t.d := by rw [List.getElem?_map, ht]; rfl
      have h2 := congrArg List.length hd
      rw [List.length_map, List.length_append, hlen] at h2
      simp at h2
      rw [hd, List.getElem?_append_right (by omega), show n7 - ts.length = 0 by omega] at h1
      simpa using h1.symm
    have HB := hide ((unhide HBW8).trans (hb.mono (unhide HBW8).size))
    have hwn := unhide HW7N
    have hltn : (n7 : Int) < (n7 : Int) + 1 := by omega
    have z0 : wc.cell? ⟨bt, ot + n7 * 11, none⟩ = some (.int .i64 0) := by have := hct 0 _ rfl; rw [htd] at this; exact this
    have z1 : wc.cell? ⟨bt, ot + n7 * 11 + 1, none⟩ = some (.int .i64 bi) := by have := hct 1 _ rfl; rw [htd] at this; exact this
    have z2 := hct 2 _ rfl
    have z3 := hct 3 _ rfl
    have z4 := hct 4 _ rfl
    have z5 := hct 5 _ rfl
    have z6 := hct 6 _ rfl
    have z7 : wc.cell? ⟨bt, ot + n7 * 11 + 7, none⟩ = some (.int .i64 (value % 256)) := by have := hct 7 _ rfl; rw [htd] at this; exact this
    have z8 := hct 8 _ rfl
    have z9 := hct 9 _ rfl
    have z10 := hct 10 _ rfl
    clear hlen hd ho hb hcc hcm hrd hok hct htd ht hbt e0 e1 e2 e3 e4 HPL HRD HNIL HN63 HNB H1C hc
    go_upto_region 13 with fail
    obtain ⟨we, hwe⟩ : ∃ we, we = wc.alloc (.cells #[.int .i64 0, .int .i64 bi, .int .i64 t.d.stock.code, .int .i64 t.d.stock.id, .int .i64 t.d.stock.free, .int .i64 t.d.stock.held, .int .i64 t.d.stock.used, .int .i64 (value % 256), .slice t.sA t.sn t.sc, .slice t.fA t.fn t.fc, .slice t.rA t.rn t.rc] 42) := ⟨_, rfl⟩
    obtain ⟨p, hp⟩ : ∃ p, p = wc.heap.size := ⟨_, rfl⟩
    have ke : Blk we p 42 #[.int .i64 0, .int .i64 bi, .int .i64 t.d.stock.code, .int .i64 t.d.stock.id, .int .i64 t.d.stock.free, .int .i64 t.d.stock.held, .int .i64 t.d.stock.used, .int .i64 (value % 256), .slice t.sA t.sn t.sc, .slice t.fA t.fn t.fc, .slice t.rA t.rn t.rc] := by rw [hwe, hp]; exact Blk.new _ _ _
    have hbe : Below wc.heap.size wc we := by rw [hwe]; exact (Below.refl _ _).alloc (Nat.le_refl _) _
    have HBF := hide ((unhide HB).trans (hbe.mono (unhide HB).size))
    have y0 := ke.cell 0
    have y1 := ke.cell 1
    have y7 := ke.cell 7
    rw [← hwe, ← hp]
    clear hwe hp ke hbe z0 z1 z2 z3 z4 z5 z6 z7 z8 z9 z10
    go_quiet ((go_at_call 5; exact quiet_left (unhide HP256 _ _)))
    go_wp2_with fail
    go_ret
    exact ⟨rfl, below_drewN (unhide HBF) _⟩
end
end Go.Proofs.YtbolcebmbpepdaaDoor
