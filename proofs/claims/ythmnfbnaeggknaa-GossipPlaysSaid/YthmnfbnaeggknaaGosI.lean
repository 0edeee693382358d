/- gossip.Play, when it plays. Conditions: none beyond what each theorem states. -/
import Derived.Test.YthmnfbnaeggknaaGosH
namespace Go.Proofs.Ythmnfbnaeggknaa
open Go.RowKit
set_option linter.unusedVariables false

theorem own_grown_far {w w' : World} {base base' e e' size size' n n' : Nat} {v v' : Value} {xs xs' : List Value} (h : w.ownsRow base e size v n xs) (h' : w.ownsRow base' e' size' v' n' xs') (he : e ≠ e') (hg : w.grownBy w' v'.ownBlock) : w'.ownsRow base e size v n xs :=
  own_only h ((Only.refl _ _).grown hg (D := fun k => v'.ownBlock = some k) (fun g hg _ => hg)) fun g hg hd => by
    rcases own_own_ne h h' he with e1 | e1
    · rw [e1] at hg; cases hg
    · exact e1 (by rw [hg, hd])
/-- a house reads as three levels -/
theorem HouseAt.st3 {w : World} {base hb sb n c m mc : Nat} {A : Option Addr} {labs : List Nat} {G : List Nat} {SS : List (List EnR)} (h : HouseAt w base hb sb n c m mc A labs G SS) {g cap : Nat} {base' : Nat} (ho : w.ownsRow base' 57 1 (.slice (some ⟨g, 0, none⟩) m cap) m (G.map (rowV n))) :
    St3 w w.heap.size (.slice (some ⟨g, 0, none⟩) m cap) (plE SS) := by
  have hgl := h.gm
  have hsl := h.sm
  refine ⟨some ⟨g, 0, none⟩, cap, (G.zip SS).map fun p => ⟨p.2, some ⟨p.1, 0, none⟩, n⟩, by simp [hgl, hsl], ?_, ?_, ?_⟩
  · have hz := Reads.of_own ho
    have e : ((G.zip SS).map fun p => (⟨p.2, some ⟨p.1, 0, none⟩, n⟩ : TabR)).map TabR.val = G.map (rowV n) := by
      rw [List.map_map]
      have e1 : (G.zip SS).map (TabR.val ∘ fun p => (⟨p.2, some ⟨p.1, 0, none⟩, n⟩ : TabR)) = (G.zip SS).map (fun p => rowV n p.1) := by
        apply List.map_congr_left
        rintro ⟨g', S⟩ hp
        obtain ⟨i, hi⟩ := List.mem_iff_getElem?.1 hp
        rw [List.getElem?_zip_eq_some] at hi
        have := (h.st i g' S hi.1 hi.2).2
        simp [TabR.val, rowV, this]
      rw [e1, show (fun p : Nat × List EnR => rowV n p.1) = rowV n ∘ Prod.fst from rfl, ← List.map_map, List.map_fst_zip (by omega)]
    rw [e]
    simpa [hgl, hsl] using hz
  · intro t ht
    obtain ⟨⟨g', S⟩, hp, rfl⟩ := List.mem_map.1 ht
    obtain ⟨i, hi⟩ := List.mem_iff_getElem?.1 hp
    rw [List.getElem?_zip_eq_some] at hi
    have hst := h.st i g' S hi.1 hi.2
    refine ⟨?_, fun r hr => Reads.of_own (hst.1.rows r hr)⟩
    dsimp only
    have hb := reads_of_blk hst.1.blk hst.1.blk.lt
    simpa using hb
  · unfold plE
    rw [List.map_map]
    show (G.zip SS).map ((fun S : List EnR => S.map EnR.es) ∘ Prod.snd) = _
    rw [← List.map_map, List.map_snd_zip (by omega)]
theorem own_house {w w' : World} {base hb sb n c m mc : Nat} {A : Option Addr} {labs : List Nat} {G : List Nat} {SS : List (List EnR)} (h : HouseAt w base hb sb n c m mc A labs G SS) {base' e size k : Nat} {v : Value} {xs : List Value} (hv : w.ownsRow base' e size v k xs) (he : e ≠ 22) (ho : Only (fun k => k ∈ G) w w') : w'.ownsRow base' e size v k xs :=
  own_only hv ho fun g hg hd => by
    obtain ⟨j, hj⟩ := List.mem_iff_getElem?.1 hd
    obtain ⟨g', S, h1, h2, h3, h4, _⟩ := h.cs (j := j) (by rw [← h.gm]; exact (List.getElem?_eq_some_iff.1 hj).1)
    obtain rfl : g' = g := by rw [hj] at h1; cases h1; rfl
    exact own_blk_ne hv h4.blk he (by rw [hg])
theorem house_low {w : World} {base hb sb n c m mc : Nat} {A : Option Addr} {labs : List Nat} {G : List Nat} {SS : List (List EnR)} (h : HouseAt w base hb sb n c m mc A labs G SS) : ∀ g ∈ G, base ≤ g := fun g hd => by
  obtain ⟨j, hj⟩ := List.mem_iff_getElem?.1 hd
  obtain ⟨g', S, h1, h2, h3, h4, _⟩ := h.cs (j := j) (by rw [← h.gm]; exact (List.getElem?_eq_some_iff.1 hj).1)
  obtain rfl : g' = g := by rw [hj] at h1; cases h1; rfl
  exact h4.low
set_option maxRecDepth 100000 in
set_option maxHeartbeats 8000000 in
theorem gosPlay_good (A : Option Addr) (n c : Nat) (zs : List Int) (A' : Option Addr) (n' c' : Nat) (ts : List TurnI) (b : Nat) (B : Nat) (w : World) (hl : zs.length = n) (hr : Reads w B 1 A n (zs.map (.int .i64))) (hz : ∀ z ∈ zs, (Lit.int .i64 z).wf = true) (hl' : ts.length = n') (hr' : Reads w B 6 A' n' (ts.flatMap turnCells)) (hB : B ≤ w.heap.size) (hb0 : 1 ≤ b) (hb8 : b ≤ 8) (hbad : zs.any (badLb b) = false) (hn4 : n ≤ 4) (hn300 : n' ≤ 300) :
    Calls Try.prog 17 #[.int .i64 b, .slice A n c, .slice A' n' c'] w (PlayPost b zs ts w) := by
  obtain ⟨hze, hzl⟩ := labs_ok b hb8 zs hbad
  obtain ⟨labs, hlabs⟩ : ∃ labs, labs = zs.map Int.toNat := ⟨_, rfl⟩
  rw [← hlabs] at hze hzl
  have hll : labs.length = n := by rw [hlabs, List.length_map, hl]
  have hLab : LabsAt w w.heap.size n A labs := ⟨by have := hr.more hB; rw [hze, List.map_map] at this; exact this, hll, hzl⟩
  have hfin : playQ b zs ts = (0, (runQ b labs ts (newQ b n)).1, (runQ b labs ts (newQ b n)).2) := by
    unfold playQ
    rw [if_neg (by rw [hbad]; simp; omega), if_neg (by omega), Int.toNat_natCast, ← hlabs, hl]
  obtain ⟨w1, hw1⟩ : ∃ w1, w1 = w.alloc (.cells #[.int .i64 b] 3) := ⟨_, rfl⟩
  have hb1 : Below w.heap.size w w1 := by rw [hw1]; exact (Below.refl _ _).alloc (Nat.le_refl _) _
  have kb : Blk w1 w.heap.size 3 #[.int .i64 b] := by rw [hw1]; exact Blk.new w _ _
  obtain ⟨p, hp⟩ : ∃ p, p = w.heap.size := ⟨_, rfl⟩
  rw [← hp] at kb
  have p0 : w1.cell? ⟨p, 0, none⟩ = some (.int .i64 b) := kb.cell 0
  have HCF := hide (intContains_any 32 #[.pointer (some ⟨p, 0, none⟩)] (badLb b) A n c zs B (fun W => w1 = W) w1 hl (by unfold maxLen; omega) (fun W hW => by rw [← hW]; exact hr.below (hb1.mono hB)) rfl playClo_enters (fun z W hz' hW => by
    have hwf := wf_i64_bounds (hz z hz')
    rw [← hW]
    exact (playClo_any z b hb8 hwf.2 p w1 p0).mono fun _ _ ⟨h1, h2⟩ => ⟨h1, h2⟩))
  rw [hbad] at HCF
  have c1' : decide ((b : Int) < 1) = false := by simp; omega
  have c2' : decide ((8 : Int) < (b : Int)) = false := by simp; omega
  have c3' : decide ((4 : Int) < (n : Int)) = false := by simp; omega
  have c4' : decide ((300 : Int) < (n' : Int)) = false := by simp; omega
  obtain ⟨iS, hiS, hzS, hsS, hyS⟩ := store_info
  obtain ⟨iE, hiE, hzE, hsE, hyE⟩ := errno_info
  obtain ⟨iR, hiR, hzR, hsR, hyR⟩ := rows_info
  obtain ⟨iL, hiL, zL, hzL, hcL, hsL, hyL⟩ := rowlist_info
  have hmk := fun W => run_make_rowN (P := Try.prog) 58 22 iL _ Try.underlying58 hiL hzL .i64 .i64 n n (Nat.le_refl _) (by rw [hyL]; omega) (by omega) W
  rw [hsL, Nat.mul_one, made_nil n zL.cells hcL] at hmk
  have HMK := hide hmk
  have HB := hide hb1
  have HW1 := hide hw1
  have HPP := hide hp
  have HL' := hide hl'
  have HR' := hide (hr'.more hB)
  have HLAB := hide hLab
  have HLL := hide hll
  have HZL := hide hl
  have HFIN := hide hfin
  have HKB := hide kb
  clear hb1 hw1 kb hp hl hl' hr hz hbad hmk hzL hcL hsL hyL hiL hze hzl hlabs hll hLab hfin hr'
  go_enter Try.func17, Try.ntmps17
  go_upto_region 1 with fail
  rw [← unhide HW1, ← unhide HPP]
  go_wp2_with fail
  refine (unhide HCF).mono ?_
  rintro _ _ ⟨rfl, rfl⟩
  go_upto_region 6 with fail
  obtain ⟨hb, hhb⟩ : ∃ hb, hb = w1.heap.size := ⟨_, rfl⟩
  obtain ⟨w2, hw2⟩ : ∃ w2, w2 = w1.alloc (.cells #[.slice A n c, .slice none 0 0] 56) := ⟨_, rfl⟩
  have hb2 : Below w1.heap.size w1 w2 := by rw [hw2]; exact (Below.refl _ _).alloc (Nat.le_refl _) _
  have kh : Blk w2 hb 56 #[.slice A n c, .slice none 0 0] := by rw [hw2, hhb]; exact Blk.new _ _ _
  have p2 : w2.cell? ⟨p, 0, none⟩ = some (.int .i64 b) := (hb2.cell (p := ⟨p, 0, none⟩) (unhide HKB).lt).trans p0
  rw [← hw2, ← hhb]
  have HM2 := hide (show HouMade w2 w.heap.size hb n c A (.slice none 0 0) [] from ⟨kh, World.ownsRow_nil _ _ _ _, fun g h => by simp at h, List.nodup_nil, by rw [hhb]; exact (unhide HB).size⟩)
  have hz2 : Below w.heap.size w w2 := (unhide HB).trans (hb2.mono (unhide HB).size)
  have HHB := hide hhb
  clear hw2 hb2 kh hhb p0
  go_wp2_with fail
  go_loopw [39] (fun j wr => ∃ (i : Nat) (v : Value) (G : List Nat), i ≤ b ∧ j = .int .i64 i ∧ Hid (G.length = i) ∧ Hid (HouMade wr w.heap.size hb n c A v G) ∧ Below w.heap.size w wr) (fun j _ => b - (intOf j).toNat)
  case atStart => exact ⟨0, _, [], Nat.zero_le _, rfl, hide rfl, HM2, hz2⟩
  case round =>
    obtain ⟨i, v, G, hi, rfl, HGL, HM, hz⟩ := hrel
    by_cases hlt : i < b
    · have c1 : wr.cell? ⟨hb, 1, none⟩ = some v := (unhide HM).blk.cell 1
      have ce1 := fun n : Ext wr => n.cell c1
      have hlt' : (i : Int) < (b : Int) := by omega
      go_upto_region 8 with fail
      refine wp_region_calm_full [0] [1, 2, 3, 4, 5, 6] [] [7, 8] 9 [10, 11, 12] (by kernel_rfl) (by kernel_rfl) (by intro c a d v w h; cases d <;> exact h) ?_
      simp only [pickOps, List.map_cons, List.map_nil, List.getD_cons_zero, List.getD_cons_succ]
      repeat (go_big_quiet_step (fail))
      refine wpQuiet_nil ?_
      repeat (go_big_quiet_step (fail))
      refine wpQuiet_nil (wpQuiet_nil ?_)
      rintro W ⟨nq, hW⟩
      have hWB : Below wr.heap.size wr W := hW ▸ nq.h
      clear hW
      simp only [wpAl]
      clear ce1
      have hk1 := unhide HMK W
      go_wp2_with fail
      refine ⟨⟨⟨_, hWB.alloc hWB.size _⟩, rfl⟩, ?_⟩
      clear hk1
      go_wp2_with fail
      refine ⟨⟨⟨_, (hWB.alloc hWB.size _).alloc (by simp; exact Nat.le_succ_of_le hWB.size) _⟩, rfl⟩, ?_⟩
      obtain ⟨w3, hw3⟩ : ∃ w3, w3 = W.alloc (.cells (nilRow n) 22) := ⟨_, rfl⟩
      have hb3 : Below W.heap.size W w3 := by rw [hw3]; exact (Below.refl _ _).alloc (Nat.le_refl _) _
      have k3 : Blk w3 W.heap.size 22 (nilRow n) := by rw [hw3]; exact Blk.new W _ _
      obtain ⟨x, hx⟩ : ∃ x, x = W.heap.size := ⟨_, rfl⟩
      rw [← hx] at k3
      have hM3 := ((unhide HM).calm hWB).calm hb3
      have hxG : x ∉ G := fun hm => by have := ((unhide HM).calm hWB).eg x hm; have := this.1.lt; omega
      have hxl : w.heap.size ≤ x := by have := hz.size; have := hWB.size; omega
      have HZ3 := hide ((hz.trans (hWB.mono hz.size)).trans (hb3.mono (by have := hz.size; have := hWB.size; omega)))
      obtain ⟨AH, cH, rfl, _⟩ := own_slice hM3.os
      have HM3 := hide hM3
      have HK3 := hide k3
      have HXX := hide hxG
      have HLX := hide hxl
      have hXl : (G.length + 1) * 24 ≤ 140737488355328 := by have := unhide HGL; omega
      have hfb := hM3.blk.frozen 1
      have hsz3 : w3.heap.size = x + 1 := by rw [hw3, hx]; simp
      rw [← hw3, ← hx]
      have HSZ3 := hide hsz3
      clear hw3 hb3 k3 hx hM3 hxG hxl hsz3 c1
      go_wp2_with (first
        | (at_builtin; (refine wpList_append_new w3 rfl (.tmp 45) (.tmp 49) _ rfl w.heap.size 58 iS _ 1 24 Try.underlying54 hiS hzS hsS hyS rfl (by omega) (by omega) _ _ _ (unhide HM3).os rfl _ 1 _ rfl (unhide HSZ3) rfl (by simp [Value.oneCell']) hXl (Nat.le_succ_of_le (unhide HLX)) ?_); intro g7 cap7 w7 hg7 hown7 hbel7 hgr7 hat7; have HB7 := hide (hbel7 w.heap.size w (Nat.le_refl _) (unhide HZ3)); have HM7 := hide ((unhide HM3).put (unhide HK3) (unhide HLX) (unhide HXX) hgr7 hown7); have u0 := ((unhide HM3).blk.only ((Only.refl _ _).grown hgr7 (D := fun k => Value.ownBlock (.slice AH G.length cH) = some k) (fun g hg _ => hg)) (fun e => own_blk_ne (unhide HM3).os (unhide HM3).blk (by decide) e)).cell 1; have u1 := ((unhide HM3).blk.only ((Only.refl _ _).grown hgr7 (D := fun k => Value.ownBlock (.slice AH G.length cH) = some k) (fun g hg _ => hg)) (fun e => own_blk_ne (unhide HM3).os (unhide HM3).blk (by decide) e)).frozen 1; clear hg7 hown7 hbel7 hgr7 hat7))
      go_roundw
      case rel => exact ⟨i + 1, _, G ++ [x], by omega, by go_num, hide (by simp [unhide HGL]), HM7, (unhide HB7).setCell (p := ⟨hb, 1, none⟩) (by have := (unhide HM).low; exact this) _⟩
      case measure => simp [intOf]; omega
    · obtain rfl : i = b := by omega
      obtain ⟨sb, mc, hH⟩ := (unhide HM).done (unhide HGL) (by omega) (by omega) (by omega) (⟨(unhide HLAB).rd.below hz, (unhide HLAB).ln, (unhide HLAB).lb⟩ : LabsAt wr w.heap.size n A labs)
      have HH0 := hide hH
      clear hH
      go_wp2_with fail
      go_loopw [10, 56] (fun o j W => ∃ (k : Nat) (SS : List (List EnR)), k ≤ n' ∧ j = .int .i64 k ∧ Hid (HouseAt W w.heap.size hb sb n c i mc A labs G SS) ∧ Hid (plE SS = plQ n (runQ i labs (ts.take k) (newQ i n)).2) ∧ Hid (W.ownsRow w.heap.size 27 1 o k ((runQ i labs (ts.take k) (newQ i n)).1.map (.int .i64))) ∧ Below w.heap.size w W) (fun _ j _ => n' - (intOf j).toNat)
      case atStart => exact ⟨0, _, Nat.zero_le _, rfl, HH0, hide (newQ_pl i n), World.ownsRow_nil _ _ _ _, hz⟩
      case round =>
        obtain ⟨k, SS, hk, rfl, HR, HP, HO, hzk⟩ := hrel
        by_cases hkn : k < n'
        · obtain ⟨bt, ot, t, rfl, _, ht, hct⟩ := at_row turnCells_len (by omega) ((unhide HR').below hzk) hkn (unhide HL')
          have z0 : wr.cell? ⟨bt, ot + k * 6, none⟩ = some (.int .i64 t.kind) := hct 0 _ rfl
          have z1 : wr.cell? ⟨bt, ot + k * 6 + 1, none⟩ = some (.int .i64 t.who) := hct 1 _ rfl
          have z2 : wr.cell? ⟨bt, ot + k * 6 + 2, none⟩ = some (.int .i64 t.dst) := hct 2 _ rfl
          have z3 : wr.cell? ⟨bt, ot + k * 6 + 3, none⟩ = some (.int .i64 t.label) := hct 3 _ rfl
          have z4 : wr.cell? ⟨bt, ot + k * 6 + 4, none⟩ = some (.int .i64 t.key) := hct 4 _ rfl
          have z5 : wr.cell? ⟨bt, ot + k * 6 + 5, none⟩ = some (.int .i64 t.value) := hct 5 _ rfl
          have hg := runQ_good (by omega) labs (unhide HLL) (ts.take k) 0 (newQ i n) (newQ_good i n) (Int.le_refl _) (by rw [List.length_take]; omega)
          have htk : (ts.take k).length = k := by rw [List.length_take]; have := unhide HL'; omega
          rw [htk] at hg
          have htp := turn_pl hg (by omega) (by omega) (by omega) labs (unhide HLL) t
          have hsn := runQ_snoc i labs t (ts.take k) (newQ i n)
          rw [← take_snoc ts k t ht] at hsn
          obtain ⟨Qk, hQk⟩ : ∃ Qk, Qk = (runQ i labs (ts.take k) (newQ i n)).2 := ⟨_, rfl⟩
          rw [← hQk] at hg htp hsn HP
          obtain ⟨w3, hw3⟩ : ∃ w3, w3 = wr.alloc (.cells (turnC t) 60) := ⟨_, rfl⟩
          have hb3 : Below wr.heap.size wr w3 := by rw [hw3]; exact (Below.refl _ _).alloc (Nat.le_refl _) _
          have k3 : Blk w3 wr.heap.size 60 (turnC t) := by rw [hw3]; exact Blk.new _ _ _
          have HTU := hide (gosTurn_any w.heap.size hb sb n c i mc A labs G SS w3 t ((unhide HR).calm hb3) (goods_times hg (by omega) SS (unhide HP)))
          rw [unhide HP, htp.1] at HTU
          have HSN := hide hsn
          have HO3 := hide (own_below' (unhide HO) hb3)
          have HZ3 := hide (hzk.trans (hb3.mono hzk.size))
          have HW3 := hide hw3
          have x0 : w3.cell? ⟨wr.heap.size, 0, none⟩ = some (.int .i64 t.kind) := k3.cell 0
          have x1 : w3.cell? ⟨wr.heap.size, 1, none⟩ = some (.int .i64 t.who) := k3.cell 1
          have x2 : w3.cell? ⟨wr.heap.size, 2, none⟩ = some (.int .i64 t.dst) := k3.cell 2
          have x3 : w3.cell? ⟨wr.heap.size, 3, none⟩ = some (.int .i64 t.label) := k3.cell 3
          have x4 : w3.cell? ⟨wr.heap.size, 4, none⟩ = some (.int .i64 t.key) := k3.cell 4
          have x5 : w3.cell? ⟨wr.heap.size, 5, none⟩ = some (.int .i64 t.value) := k3.cell 5
          obtain ⟨kind, who, dst, label, key, value⟩ := t
          unfold turnC at HTU HW3
          dsimp only at z0 z1 z2 z3 z4 z5 x0 x1 x2 x3 x4 x5 HTU HW3
          have hkn' : (k : Int) < (n' : Int) := by omega
          clear hct ht hg htk htp hsn hQk hw3 hb3 k3
          go_upto_region 14 with fail
          rw [← unhide HW3]
          go_wp2_with fail
          refine (unhide HTU).mono ?_
          rintro _ w4 ⟨rfl, SS4, hh4, hp4, ho4⟩
          have HH3 := hide ((unhide HR).calm (w' := w3) (by rw [unhide HW3]; exact (Below.refl _ _).alloc (Nat.le_refl _) _))
          have HO4 := hide (own_house (unhide HH3) (unhide HO3) (by decide) ho4)
          have HZ4 := hide (Below.only (unhide HZ3) ho4 (fun x hx hd => by have := house_low (unhide HH3) x hd; omega) (unhide HZ3).size)
          obtain ⟨AO, cO, rfl, hcO⟩ := own_slice (unhide HO4)
          have HH4 := hide hh4
          have HP4 := hide hp4
          generalize (turnQ i labs { kind := kind, who := who, dst := dst, label := label, key := key, value := value } Qk) = rq at *
          have hmq : (k + 1) * 8 ≤ 140737488355328 := by omega
          have hs4 := (unhide HZ4).size
          clear hh4 hp4 ho4 x0 x1 x2 x3 x4 x5 z0 z1 z2 z3 z4 z5
          go_wp2_with (first
            | (at_builtin; (refine wpList_append_new w4 rfl (.tmp 60) (.tmp 64) _ rfl w.heap.size 27 iE _ 1 8 Try.underlying34 hiE hzE hsE hyE rfl (by omega) (by omega) _ _ _ (unhide HO4) rfl _ 1 _ rfl rfl rfl (by simp [Value.oneCell']) hmq hs4 ?_); intro g7 cap7 w7 hg7 hown7 hbel7 hgr7 hat7; have HB7 := hide (hbel7 w.heap.size w (Nat.le_refl _) (unhide HZ4)); have HH7 := hide ((unhide HH4).own (unhide HO4) (by decide) hgr7); have HO7 := hide hown7; clear hg7 hown7 hbel7 hgr7 hat7))
          go_roundw
          case rel => exact ⟨k + 1, SS4, by omega, by go_num, HH7, hide (by rw [unhide HSN]; exact unhide HP4), hide (by rw [unhide HSN]; simpa using unhide HO7), unhide HB7⟩
          case measure => simp [intOf]; omega
        · obtain rfl : k = n' := by omega
          have y1 := (unhide HR).c1
          rw [List.take_of_length_le (by rw [unhide HL']; exact Nat.le_refl _)] at HP HO
          rename World => W0
          go_wp2_with fail
          go_loopw [13, 72] (fun o j W => ∃ (q : Nat), q ≤ i ∧ j = .int .i64 q ∧ Hid (HouseAt W w.heap.size hb sb n c i mc A labs G SS) ∧ Hid (W.ownsRow w.heap.size 27 1 u10 k ((runQ i labs ts (newQ i n)).1.map (.int .i64))) ∧ Hid (W.ownsRow w.heap.size 57 1 o q ((G.take q).map (rowV n))) ∧ Below w.heap.size w W) (fun _ j _ => i - (intOf j).toNat)
          case atStart => exact ⟨0, Nat.zero_le _, rfl, HR, HO, World.ownsRow_nil _ _ _ _, hzk⟩
          case round =>
            obtain ⟨q, hq, rfl, HRq, HOq, HAq, hzq⟩ := hrel
            by_cases hqi : q < i
            · obtain ⟨g, S, e1, e2, y2, _, _⟩ := (unhide HRq).cs hqi
              have HTK := hide (take_snoc G q g e1)
              obtain ⟨AO, cO, rfl, hcO⟩ := own_slice (unhide HAq)
              have hmq : (q + 1) * 24 ≤ 140737488355328 := by omega
              have hs4 := hzq.size
              have hqi' : (q : Int) < (i : Int) := by omega
              clear e1 e2
              go_wp2_with (first
                | (at_builtin; (refine wpList_append_new _ rfl (.tmp 76) (.tmp 78) _ rfl w.heap.size 57 iR _ 1 24 Try.underlying35 hiR hzR hsR hyR rfl (by omega) (by omega) _ _ _ (unhide HAq) rfl _ 1 _ rfl rfl rfl (by simp [Value.oneCell']) hmq hs4 ?_); intro g7 cap7 w7 hg7 hown7 hbel7 hgr7 hat7; have HB7 := hide (hbel7 w.heap.size w (Nat.le_refl _) hzq); have HH7 := hide ((unhide HRq).own (unhide HAq) (by decide) hgr7); have HC7 := hide (own_grown_far (unhide HOq) (unhide HAq) (by decide) hgr7); have HO7 := hide hown7; clear hg7 hown7 hbel7 hgr7 hat7))
              go_roundw
              case rel => exact ⟨q + 1, by omega, by go_num, HH7, HC7, hide (by rw [unhide HTK, List.map_append]; exact unhide HO7), unhide HB7⟩
              case measure => simp [intOf]; omega
            · obtain rfl : q = i := by omega
              have hAl := unhide HAq
              rw [List.take_of_length_le (by rw [unhide HGL]; exact Nat.le_refl _)] at hAl
              obtain ⟨ga, ca, csa, rfl, _⟩ := own_cur1 hAl (by omega)
              have HS3 := hide ((unhide HRq).st3 hAl)
              clear hAl
              go_wp2_with fail
              go_ret3
              unfold PlayPost
              rw [unhide HFIN]
              refine ⟨u10, _, rfl, ?_, ?_, hzq⟩
              · rw [runQ_len, unhide HL']; exact unhide HOq
              · rw [unhide HZL, ← unhide HP]; exact unhide HS3
theorem gosPlay_any (b : Int) (A : Option Addr) (n c : Nat) (zs : List Int) (A' : Option Addr) (n' c' : Nat) (ts : List TurnI) (B : Nat) (w : World) (hl : zs.length = n) (hm : n ≤ maxLen) (hr : Reads w B 1 A n (zs.map (.int .i64))) (hz : ∀ z ∈ zs, (Lit.int .i64 z).wf = true) (hl' : ts.length = n') (hr' : Reads w B 6 A' n' (ts.flatMap turnCells)) (hB : B ≤ w.heap.size) :
    Calls Try.prog 17 #[.int .i64 b, .slice A n c, .slice A' n' c'] w (PlayPost b zs ts w) := by
  by_cases h : b < 1 ∨ 8 < b ∨ zs.any (badLb b) = true ∨ 4 < zs.length ∨ 300 < ts.length
  · exact gosPlay_bad A n c zs A' n' c' ts b B w hl hm hr hz hl' hB h
  · have h1 : ¬ b < 1 := fun e => h (.inl e)
    have h2 : ¬ 8 < b := fun e => h (.inr (.inl e))
    have h3 : zs.any (badLb b) = false := by
      cases hh : zs.any (badLb b) with
      | false => rfl
      | true => exact absurd (.inr (.inr (.inl hh))) h
    have h4 : ¬ 4 < zs.length := fun e => h (.inr (.inr (.inr (.inl e))))
    have h5 : ¬ 300 < ts.length := fun e => h (.inr (.inr (.inr (.inr e))))
    obtain ⟨b, rfl⟩ : ∃ z : Nat, b = z := ⟨b.toNat, by omega⟩
    exact gosPlay_good A n c zs A' n' c' ts b B w hl hr hz hl' hr' hB (by omega) (by omega) h3 (by omega) (by omega)
end Go.Proofs.Ythmnfbnaeggknaa
