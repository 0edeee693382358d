/- Contracts and plain facts, set together by program out of smaller texts. Conditions: none beyond what each theorem states. -/
import Derived.Test.YtbolcebmbpepdaaDoorM38
import Derived.Test.YtbolcebmbpepdaaDoorM08
namespace Go.Proofs.YtbolcebmbpepdaaDoor
set_option linter.unusedVariables false
section
open Go.RowKit
def treeF : OT := (.fork (.next 8 (.fork (.next 9 (.fork (.next 10 (.fork (.next 11 (.next 12 (.next 13 (.next 14 .done)))) (.next 12 (.fork (.next 11 (.next 13 (.next 14 .done))) (.next 13 (.next 11 (.next 14 .done))))))) (.fork (.next 11 (.fork (.next 10 (.next 12 (.next 13 (.next 14 .done)))) (.next 12 (.next 10 (.next 13 (.next 14 .done)))))) (.next 12 (.fork (.next 10 (.fork (.next 11 (.next 13 (.next 14 .done))) (.next 13 (.next 11 (.next 14 .done))))) (.next 11 (.next 10 (.next 13 (.next 14 .done))))))))) (.next 12 (.next 9 (.fork (.next 10 (.fork (.next 11 (.next 13 (.next 14 .done))) (.next 13 (.next 11 (.next 14 .done))))) (.next 11 (.next 10 (.next 13 (.next 14 .done))))))))) (.next 12 (.next 8 (.next 9 (.fork (.next 10 (.fork (.next 11 (.next 13 (.next 14 .done))) (.next 13 (.next 11 (.next 14 .done))))) (.next 11 (.next 10 (.next 13 (.next 14 .done)))))))))
section
variable {w : World} {c : Cfg} {y : Lay} {S : WS} {K base : Nat} {ow : Nat → Tag}
set_option maxRecDepth 100000 in
set_option maxHeartbeats 4000000 in
theorem entry_good (h : PW w c y S K base ow) (N : Nat) (hS : S.ok c N) (s : StpI) (i : Nat) (hi : i < c.n) (hw : s.who = i) (hb : ¬ badEntry c s) :
    Calls Tryd.prog 45 #[.pointer (some ⟨y.hb, 0, none⟩), .pointer (some ⟨(y.br i).b, 0, none⟩), s.val] w (StepPost w c y K base ow (noWho (entryW c S s i).1, (entryW c S s i).2)) := by
  obtain ⟨kind, who, item, count, life, id, label, key⟩ := s
  dsimp only at hw
  unfold badEntry at hb
  dsimp only at hb
  subst hw
  unfold StpI.val
  dsimp only
  obtain ⟨p, hp⟩ : ∃ p, p = w.heap.size := ⟨_, rfl⟩
  obtain ⟨q, hq⟩ : ∃ q, q = w.heap.size + 1 := ⟨_, rfl⟩
  obtain ⟨wx, hwx⟩ : ∃ wx, wx = (w.alloc (.cells #[.int .i64 kind, .int .i64 (i : Int), .int .i64 item, .int .i64 count, .int .i64 life, .int .i64 id, .int .i64 label, .int .i64 key] 32)).alloc (.cells (tol0 0 0).cells.toArray 42) := ⟨_, rfl⟩
  have hbx : Below w.heap.size w wx := by rw [hwx]; exact ((Below.refl _ _).alloc (Nat.le_refl _) _).alloc (by simp) _
  have kp : Blk wx p 32 #[.int .i64 kind, .int .i64 (i : Int), .int .i64 item, .int .i64 count, .int .i64 life, .int .i64 id, .int .i64 label, .int .i64 key] := by rw [hwx, hp]; exact (Blk.new w _ _).alloc _
  have kq : Blk wx q 42 (tol0 0 0).cells.toArray := by
    have h1 := Blk.new (w.alloc (.cells #[.int .i64 kind, .int .i64 (i : Int), .int .i64 item, .int .i64 count, .int .i64 life, .int .i64 id, .int .i64 label, .int .i64 key] 32)) 42 (tol0 0 0).cells.toArray
    rw [hwx, hq]
    simpa using h1
  have hx := h.calm hbx
  have HNO := hide (fun e W => worldNo_any e W)
  unfold tol0 told0 Tol.val Stk.none at HNO
  dsimp only at HNO
  have c1 : wx.cell? ⟨y.hb, 1, none⟩ = some (.slice c.la.A c.la.n c.la.c) := (hx.pc .con).blk.cell 1
  have hln : c.la.n = c.ln := hx.cfg.1.1.symm
  rw [hln] at c1
  have s1 : wx.cell? ⟨p, 1, none⟩ = some (.int .i64 (i : Int)) := kp.cell 1
  have s0 : wx.cell? ⟨p, 0, none⟩ = some (.int .i64 kind) := kp.cell 0
  have s3 : wx.cell? ⟨p, 3, none⟩ = some (.int .i64 count) := kp.cell 3
  have s6 : wx.cell? ⟨p, 6, none⟩ = some (.int .i64 label) := kp.cell 6
  have s7 : wx.cell? ⟨p, 7, none⟩ = some (.int .i64 key) := kp.cell 7
  have HX := hide hx
  have HKQ := hide kq
  have HBX := hide hbx
  have HP := hide hp
  have HQ := hide hq
  have HH := hide h
  have HWX := hide hwx
  clear hx kp kq hbx hp hq h hwx hln
  obtain ⟨l, hl⟩ : ∃ l : Nat, label = l := ⟨label.toNat, by omega⟩
  subst hl
  have hll : l < c.ln := by omega
  obtain ⟨bl, ol, z, hA, _, hz, hcz⟩ := at_num (unhide HX).cfg.1.2.2.2 (show l < c.la.n by rw [← (unhide HX).cfg.1.1]; exact hll)
  obtain ⟨⟨hn, hn1, hn8⟩, _, _, _, _, hzs, _⟩ := config_facts (unhide HX).may
  have hzb := hzs z (List.mem_of_getElem? hz)
  have hz255 : z.toNat ≤ 255 := by
    have h1 : (2 : Int) ^ c.n ≤ 2 ^ 8 := by exact_mod_cast Nat.pow_le_pow_right (by omega) hn8
    have h2 := hzb.2
    omega
  obtain ⟨v, hv⟩ : ∃ v : Nat, v = z.toNat := ⟨_, rfl⟩
  have hzv : z = (v : Int) := by omega
  rw [hzv] at hcz hz
  have HZ := hide hz
  have HIN := hide (fun W => gosIn_any v i W (by omega) (by omega))
  rw [hA] at c1
  have hlt : (l : Int) < (c.ln : Int) := by omega
  have HBC := hide hb
  have hgz : (c.la.zs.getD ((l : Int)).toNat 0).toNat = v := by rw [Int.toNat_natCast, List.getD_eq_getElem?_getD, hz]; simp
  have hEV : entryW c S ⟨kind, i, item, count, life, id, l, key⟩ i = (if v.testBit i = false then (told0 11 i, S) else if kind = 7 then (told0 0 i, { S with st := upd1 S.st i ((S.st i).set l (putE ((S.st i).getD l []) i key count false)) }) else if (findE ((S.st i).getD l []) key).2 = false then (told0 6 i, S) else (⟨0, i, Stk.none, (findE ((S.st i).getD l []) key).1.value, [], [], []⟩, S)) := by
    unfold entryW
    dsimp only
    rw [if_neg hb, hgz, Int.toNat_natCast]
  have HE := hide hEV
  have hst := hS.st i
  have hbr := (unhide HX).pc .con |>.brs i hi
  have d3 : wx.cell? ⟨(y.br i).b, 3, none⟩ = some (.slice (some ⟨(y.br i).t, 0, none⟩) c.ln c.ln) := hbr.cell 3
  have HPUT := hide (fun W (hW : Below wx.heap.size wx W) => storePutW_any (ow := ow) ((unhide HX).calm hW) i l hi hll hst i key count false)
  have HFND := hide (fun W (hW : Below wx.heap.size wx W) => storeFindW_any (ow := ow) ((unhide HX).calm hW) i l hi hll hst.1 key)
  have T1 := hide c1
  have T2 := hide hcz
  have T3 := hide d3
  have T4 := hide s0
  have T5 := hide s1
  have T6 := hide s3
  have T7 := hide s6
  have T8 := hide s7
  have hg1 : decide ((l : Int) < 0) = false := by simp
  have hg2 : decide ((c.ln : Int) ≤ (l : Int)) = false := by simpa using hll
  have hg5 : decide (c.ln ≤ l) = false := by simpa using hll
  have hg3 : decide (key < 0) = false := by simp; omega
  have hg4 : decide (8 ≤ key) = false := by simp; omega
  clear hA hz hzb hz255 hv hzs hn hn1 hn8 hgz hEV hst hbr d3 hcz hb
  go_enter Tryd.func45, Tryd.ntmps45
  go_upto_region 1 with fail
  rw [show (#[.int .i64 0, .int .i64 0, .int .i64 0, .int .i64 0, .int .i64 0, .int .i64 0, .int .i64 0, .int .i64 0, .slice none 0 0, .slice none 0 0, .slice none 0 0] : Array Value) = (tol0 0 0).cells.toArray from rfl, ← unhide HWX, ← unhide HQ, ← unhide HP]
  have hd : ((kind == 7) = true ∧ decide (count < 0) = false ∧ decide (255 < count) = false) ∨ (kind == 7) = false := by
    have := unhide HBC
    simp only [decide_eq_false_iff_not, beq_iff_eq, beq_eq_false_iff_ne]
    omega
  rcases hd with ⟨a5, a6, a7⟩ | a5
  · go_quiet (fail)
    have HW := hide (below_drewN (Below.refl wx.heap.size wx) nq)
    have HK2 := hide ((unhide HKQ).drewN nq)
    generalize wx.drewN nq = w2 at HW HK2 ⊢
    clear c1 s0 s1 s3 s6 s7
    have t1 := fun n : Ext w2 => Ext.cell (w := wx) ⟨n.W, (unhide HW).trans (n.h.mono (unhide HW).size)⟩ (unhide T1)
    have t2 := fun n : Ext w2 => Ext.cell (w := wx) ⟨n.W, (unhide HW).trans (n.h.mono (unhide HW).size)⟩ (unhide T2)
    have t5 := fun n : Ext w2 => Ext.cell (w := wx) ⟨n.W, (unhide HW).trans (n.h.mono (unhide HW).size)⟩ (unhide T5)
    have t7 := fun n : Ext w2 => Ext.cell (w := wx) ⟨n.W, (unhide HW).trans (n.h.mono (unhide HW).size)⟩ (unhide T7)
    go_upto_region 3 with fail
    have HIN2 := hide (fun n : Ext w2 => (unhide HIN n.W).mono (fun e w' (h : e = .returned (.bool (v.testBit i)) ∧ n.W = w') => And.intro h.1 (show Below n.W.heap.size n.W w' by rw [← h.2]; exact Below.refl _ _)))
    generalize v.testBit i = M at HIN2 HE
    refine wp_region_calm (by kernel_rfl) (by kernel_rfl) ?_
    repeat (go_big_quiet_step ((go_at_call 63; exact calm_call (unhide HIN2 _))))
    refine wpQuiet_nil ?_
    rintro _ ⟨nq2, rfl⟩
    have HW5 := hide ((unhide HW).trans (nq2.h.mono (unhide HW).size))
    have HK5 := hide ((unhide HK2).below nq2.h (unhide HK2).lt)
    generalize nq2.W = w5 at HW5 HK5 ⊢
    clear t1 t2 t5 t7 HIN2
    have r0 := Ext.cell (w := wx) ⟨w5, unhide HW5⟩ (unhide T4)
    have r1 := Ext.cell (w := wx) ⟨w5, unhide HW5⟩ (unhide T5)
    have r3 := Ext.cell (w := wx) ⟨w5, unhide HW5⟩ (unhide T6)
    have r6 := Ext.cell (w := wx) ⟨w5, unhide HW5⟩ (unhide T7)
    have r7 := Ext.cell (w := wx) ⟨w5, unhide HW5⟩ (unhide T8)
    have rd := Ext.cell (w := wx) ⟨w5, unhide HW5⟩ (unhide T3)
    cases M with
    | false =>
      have HF := hide (show entryW c S ⟨kind, i, item, count, life, id, l, key⟩ i = (told0 11 i, S) from (unhide HE).trans (if_pos rfl))
      clear r0 r1 r3 r6 r7 rd
      go_wp2_with fail
      refine (unhide HNO 11 w5).mono ?_
      rintro _ w6 ⟨rfl, hb6⟩
      have HK6 := hide ((unhide HK5).below hb6 (unhide HK5).lt)
      have HB6 := hide ((unhide HW5).trans (hb6.mono (unhide HW5).size))
      clear hb6
      obtain ⟨g0, g1, g2, g3, g4, g5, g6, g7, g8, g9, g10⟩ := tol_zero (unhide HK6)
      obtain ⟨f0, f1, f2, f3, f4, f5, f6, f7, f8, f9, f10⟩ := tol_free (unhide HK6)
      go_wp2_with fail
      change bodyPost _ _ _ _ _ (wrT w6 q (tol0 11 0))
      have k9 := wrT_blk (unhide HK6) rfl (tol0 11 0)
      have HO9 := hide (wrT_only w6 q (tol0 11 0))
      clear g0 g1 g2 g3 g4 g5 g6 g7 g8 g9 g10 f0 f1 f2 f3 f4 f5 f6 f7 f8 f9 f10
      generalize wrT w6 q (tol0 11 0) = w9 at k9 HO9 ⊢
      obtain ⟨d0, d1, d2, d3, d4, d5, d6, d7, d8, d9, d10⟩ := tol_cells k9
      refine bodyPost_ret (v := ((tol0 11 0)).val) (by simp [results, Tryd.results45, go_sem, d0, d1, d2, d3, d4, d5, d6, d7, d8, d9, d10, Tol.val]) rfl (stepPost_plain 11 (unhide HF) (Turned.nobody (unhide HH) ((unhide HBX).trans ((unhide HB6).mono (unhide HBX).size)) (unhide HO9) (by rw [unhide HQ]; omega)))
    | true =>
      have HF := hide (show entryW c S ⟨kind, i, item, count, life, id, l, key⟩ i = (told0 0 i, { S with st := upd1 S.st i ((S.st i).set l (putE ((S.st i).getD l []) i key count false)) }) from (unhide HE).trans (by rw [if_neg (by simp), if_pos (by simpa using a5)]))
      go_upto_region 6 with fail
      have u0 := fun n : Ext w5 => n.cell r0
      have u1 := fun n : Ext w5 => n.cell r1
      have u3 := fun n : Ext w5 => n.cell r3
      have u6 := fun n : Ext w5 => n.cell r6
      have u7 := fun n : Ext w5 => n.cell r7
      have ud := fun n : Ext w5 => n.cell rd
      clear r0 r1 r3 r6 r7 rd
      refine wp_region_calm_tail 12 (by kernel_rfl) (by kernel_rfl) ?_
      simp only [List.take_succ_cons, List.take_zero, List.drop_succ_cons, List.drop_zero]
      repeat (go_big_quiet_step (fail))
      refine wpQuiet_nil ?_
      rintro _ ⟨nq3, rfl⟩
      have HW6 := hide ((unhide HW5).trans (nq3.h.mono (unhide HW5).size))
      have HK6 := hide ((unhide HK5).below nq3.h (unhide HK5).lt)
      generalize nq3.W = w6 at HW6 HK6 ⊢
      clear u0 u1 u3 u6 u7 ud
      go_wp2_with fail
      refine (unhide HPUT w6 (unhide HW6)).mono ?_
      rintro _ w7 ⟨rfl, ow7, hp7, hk7⟩
      have hq7 : Blk w7 q 42 (tol0 0 0).cells.toArray := hk7.blk (unhide HK6) ((unhide HH).fresh q (by rw [unhide HQ]; omega))
      have HK7 := hide hq7
      have HP7 := hide hp7
      have HKK := hide ((Kept.calm ((unhide HBX).trans ((unhide HW6).mono (unhide HBX).size))).trans hk7)
      have HN7 := hide (show ow7 q = .no from (hk7.old q (unhide HK6).lt).trans ((unhide HH).fresh q (by rw [unhide HQ]; omega)))
      clear hq7 hp7 hk7
      obtain ⟨g0, g1, g2, g3, g4, g5, g6, g7, g8, g9, g10⟩ := tol_zero (unhide HK7)
      obtain ⟨f0, f1, f2, f3, f4, f5, f6, f7, f8, f9, f10⟩ := tol_free (unhide HK7)
      go_wp2_with fail
      change bodyPost _ _ _ _ _ (wrT w7 q (tol0 0 0))
      have k9 := wrT_blk (unhide HK7) rfl (tol0 0 0)
      have HO9 := hide (wrT_only w7 q (tol0 0 0))
      clear g0 g1 g2 g3 g4 g5 g6 g7 g8 g9 g10 f0 f1 f2 f3 f4 f5 f6 f7 f8 f9 f10
      generalize wrT w7 q (tol0 0 0) = w9 at k9 HO9 ⊢
      obtain ⟨d0, d1, d2, d3, d4, d5, d6, d7, d8, d9, d10⟩ := tol_cells k9
      refine bodyPost_ret (v := ((tol0 0 0)).val) (by simp [results, Tryd.results45, go_sem, d0, d1, d2, d3, d4, d5, d6, d7, d8, d9, d10, Tol.val]) rfl (stepPost_plain 0 (unhide HF) (Turned.mk_ (unhide HP7) (unhide HKK) (unhide HO9) (by rw [unhide HQ]; omega) (unhide HN7) (unhide HH).bw))
  · go_quiet (fail)
    have HW := hide (below_drewN (Below.refl wx.heap.size wx) nq)
    have HK2 := hide ((unhide HKQ).drewN nq)
    generalize wx.drewN nq = w2 at HW HK2 ⊢
    clear c1 s0 s1 s3 s6 s7
    have t1 := fun n : Ext w2 => Ext.cell (w := wx) ⟨n.W, (unhide HW).trans (n.h.mono (unhide HW).size)⟩ (unhide T1)
    have t2 := fun n : Ext w2 => Ext.cell (w := wx) ⟨n.W, (unhide HW).trans (n.h.mono (unhide HW).size)⟩ (unhide T2)
    have t5 := fun n : Ext w2 => Ext.cell (w := wx) ⟨n.W, (unhide HW).trans (n.h.mono (unhide HW).size)⟩ (unhide T5)
    have t7 := fun n : Ext w2 => Ext.cell (w := wx) ⟨n.W, (unhide HW).trans (n.h.mono (unhide HW).size)⟩ (unhide T7)
    go_upto_region 3 with fail
    have HIN2 := hide (fun n : Ext w2 => (unhide HIN n.W).mono (fun e w' (h : e = .returned (.bool (v.testBit i)) ∧ n.W = w') => And.intro h.1 (show Below n.W.heap.size n.W w' by rw [← h.2]; exact Below.refl _ _)))
    generalize v.testBit i = M at HIN2 HE
    refine wp_region_calm (by kernel_rfl) (by kernel_rfl) ?_
    repeat (go_big_quiet_step ((go_at_call 63; exact calm_call (unhide HIN2 _))))
    refine wpQuiet_nil ?_
    rintro _ ⟨nq2, rfl⟩
    have HW5 := hide ((unhide HW).trans (nq2.h.mono (unhide HW).size))
    have HK5 := hide ((unhide HK2).below nq2.h (unhide HK2).lt)
    generalize nq2.W = w5 at HW5 HK5 ⊢
    clear t1 t2 t5 t7 HIN2
    have r0 := Ext.cell (w := wx) ⟨w5, unhide HW5⟩ (unhide T4)
    have r1 := Ext.cell (w := wx) ⟨w5, unhide HW5⟩ (unhide T5)
    have r3 := Ext.cell (w := wx) ⟨w5, unhide HW5⟩ (unhide T6)
    have r6 := Ext.cell (w := wx) ⟨w5, unhide HW5⟩ (unhide T7)
    have r7 := Ext.cell (w := wx) ⟨w5, unhide HW5⟩ (unhide T8)
    have rd := Ext.cell (w := wx) ⟨w5, unhide HW5⟩ (unhide T3)
    cases M with
    | false =>
      have HF := hide (show entryW c S ⟨kind, i, item, count, life, id, l, key⟩ i = (told0 11 i, S) from (unhide HE).trans (if_pos rfl))
      clear r0 r1 r3 r6 r7 rd
      go_wp2_with fail
      refine (unhide HNO 11 w5).mono ?_
      rintro _ w6 ⟨rfl, hb6⟩
      have HK6 := hide ((unhide HK5).below hb6 (unhide HK5).lt)
      have HB6 := hide ((unhide HW5).trans (hb6.mono (unhide HW5).size))
      clear hb6
      obtain ⟨g0, g1, g2, g3, g4, g5, g6, g7, g8, g9, g10⟩ := tol_zero (unhide HK6)
      obtain ⟨f0, f1, f2, f3, f4, f5, f6, f7, f8, f9, f10⟩ := tol_free (unhide HK6)
      go_wp2_with fail
      change bodyPost _ _ _ _ _ (wrT w6 q (tol0 11 0))
      have k9 := wrT_blk (unhide HK6) rfl (tol0 11 0)
      have HO9 := hide (wrT_only w6 q (tol0 11 0))
      clear g0 g1 g2 g3 g4 g5 g6 g7 g8 g9 g10 f0 f1 f2 f3 f4 f5 f6 f7 f8 f9 f10
      generalize wrT w6 q (tol0 11 0) = w9 at k9 HO9 ⊢
      obtain ⟨d0, d1, d2, d3, d4, d5, d6, d7, d8, d9, d10⟩ := tol_cells k9
      refine bodyPost_ret (v := ((tol0 11 0)).val) (by simp [results, Tryd.results45, go_sem, d0, d1, d2, d3, d4, d5, d6, d7, d8, d9, d10, Tol.val]) rfl (stepPost_plain 11 (unhide HF) (Turned.nobody (unhide HH) ((unhide HBX).trans ((unhide HB6).mono (unhide HBX).size)) (unhide HO9) (by rw [unhide HQ]; omega)))
    | true =>
      have HF := hide ((unhide HE).trans (by rw [if_neg (by simp), if_neg (show ¬ kind = 7 by simpa using a5)]))
      clear HPUT
      generalize (findE ((S.st i).getD l []) key) = fr at HFND HF
      obtain ⟨E, V⟩ := fr
      obtain ⟨ek, ev, et, ew, eg⟩ := E
      unfold entV at HFND
      dsimp only at HFND HF
      go_upto_region 8 with fail
      have HFN := hide (fun n : Ext w5 => unhide HFND n.W ((unhide HW5).trans (n.h.mono (unhide HW5).size)))
      have u6 := fun n : Ext w5 => n.cell r6
      have u7 := fun n : Ext w5 => n.cell r7
      have ud := fun n : Ext w5 => n.cell rd
      clear r0 r1 r3 r6 r7 rd
      go_cut [7, 8] (fun s7 s8 W => ∃ b, s7 = .pointer (some ⟨b, 0, none⟩) ∧ s8 = .bool V ∧ Hid (Blk W b 131 #[.int .i64 ek, .int .i64 ev, .int .i64 et, .int .i64 ew, .bool eg] ∧ Below w5.heap.size w5 W))
      case first =>
        refine wp_region_calm_treeW [0, 1, 2, 3, 4, 5, 6, 7] [8, 9, 10, 11, 12, 13, 14] treeF (by kernel_rfl) (by kernel_rfl) (by intro c a d v w h; cases d <;> exact h) ?_
        simp only [pickOps, List.map_cons, List.map_nil, List.getD_cons_zero, List.getD_cons_succ]
        repeat (go_big_quiet_step (fail))
        refine wpQuiet_nil ?_
        clear u6 u7 ud
        have hd0 : Below w5.heap.size w5 w5.drew := (Below.refl _ w5).drew
        generalize w5.drew = wc at hd0 ⊢
        unfold treeF
        repeat' (first
          | (refine wpT_fork ?_ ?_)
          | (refine wpT_done ?_; go_wp2_with (fail); go_meet; exact ⟨_, rfl, rfl, hide ⟨kb, hd0⟩⟩)
          | (refine wpT_step fun K0 hK0 => ?_; simp only [pickOps, List.map_cons, List.map_nil, List.getD_cons_zero, List.getD_cons_succ]; go_wp2_with (fail); refine hK0 _ wc (fun _ => ⟨⟨_, hd0⟩, rfl⟩) ?_; clear hK0 K0)
          | (refine wpT_step fun K0 hK0 => ?_; simp only [pickOps, List.map_cons, List.map_nil, List.getD_cons_zero, List.getD_cons_succ]; go_wp2_with (fail); refine (unhide HFN ⟨_, hd0⟩).mono ?_; rintro _ wc ⟨rfl, hb7⟩; (try (have kb := kb.below hb7 kb.lt)); have hd0 := hd0.trans (hb7.mono hd0.size); clear hb7; go_wp2_with (fail); refine hK0 _ wc (fun _ => ⟨⟨_, hd0⟩, rfl⟩) ?_; clear hK0 K0)
          | (refine wpT_step fun K0 hK0 => ?_; simp only [pickOps, List.map_cons, List.map_nil, List.getD_cons_zero, List.getD_cons_succ]; go_wp2_with (fail); refine hK0 _ (wc.alloc (.cells #[.int .i64 0, .int .i64 0, .int .i64 0, .int .i64 0, .bool false] 131)) (fun _ => ⟨⟨_, hd0.alloc hd0.size _⟩, rfl⟩) ?_; clear hK0 K0; have kb := Blk.new wc 131 #[.int .i64 0, .int .i64 0, .int .i64 0, .int .i64 0, .bool false]; have hd1 := hd0.alloc hd0.size (.cells #[.int .i64 0, .int .i64 0, .int .i64 0, .int .i64 0, .bool false] 131); have hbb := hd0.size; clear hd0; generalize wc.heap.size = bb at kb hbb ⊢; generalize wc.alloc (.cells #[.int .i64 0, .int .i64 0, .int .i64 0, .int .i64 0, .bool false] 131) = wc at kb hd1 ⊢; have hd0 := hd1; clear hd1)
          | (have q0 : wc.cell? ⟨bb, 0, none⟩ = some (.int .i64 0) := kb.cell 0
             have q1 : wc.cell? ⟨bb, 1, none⟩ = some (.int .i64 0) := kb.cell 1
             have q2 : wc.cell? ⟨bb, 2, none⟩ = some (.int .i64 0) := kb.cell 2
             have q3 : wc.cell? ⟨bb, 3, none⟩ = some (.int .i64 0) := kb.cell 3
             have q4 : wc.cell? ⟨bb, 4, none⟩ = some (.bool false) := kb.cell 4
             have f0 := kb.frozen 0
             have f1 := kb.frozen 1
             have f2 := kb.frozen 2
             have f3 := kb.frozen 3
             have f4 := kb.frozen 4
             refine wpT_step fun K0 hK0 => ?_
             simp only [pickOps, List.map_cons, List.map_nil, List.getD_cons_zero, List.getD_cons_succ]
             go_wp2_with (fail)
             have kb := blk_ent kb rfl (.int .i64 ek) (.int .i64 ev) (.int .i64 et) (.int .i64 ew) (.bool eg)
             have hd1 := Below.only hd0 (only_ent wc bb (.int .i64 ek) (.int .i64 ev) (.int .i64 et) (.int .i64 ew) (.bool eg)) (fun x hx e => by omega) hd0.size
             refine hK0 _ (ent5 wc bb (.int .i64 ek) (.int .i64 ev) (.int .i64 et) (.int .i64 ew) (.bool eg)) (fun _ => ⟨⟨_, hd1⟩, rfl⟩) ?_
             clear hK0 K0 q0 q1 q2 q3 q4 f0 f1 f2 f3 f4 hd0
             generalize ent5 wc bb (.int .i64 ek) (.int .i64 ev) (.int .i64 et) (.int .i64 ew) (.bool eg) = wc at kb hd1 ⊢
             have hd0 := hd1
             clear hd1))
      case rest =>
        obtain ⟨be, rfl, rfl, HKE⟩ := hcut
        have HKC := hide ((unhide HK5).below (unhide HKE).2 (unhide HK5).lt)
        have HWC := hide ((unhide HW5).trans ((unhide HKE).2.mono (unhide HW5).size))
        have v1 : wc.cell? ⟨be, 1, none⟩ = some (.int .i64 ev) := (unhide HKE).1.cell 1
        cases V with
        | false =>
          have HG := hide ((unhide HF).trans (if_pos rfl))
          clear v1
          go_wp2_with fail
          refine (unhide HNO 6 wc).mono ?_
          rintro _ w6 ⟨rfl, hb6⟩
          have HK6 := hide ((unhide HKC).below hb6 (unhide HKC).lt)
          have HB6 := hide ((unhide HWC).trans (hb6.mono (unhide HWC).size))
          clear hb6
          obtain ⟨g0, g1, g2, g3, g4, g5, g6, g7, g8, g9, g10⟩ := tol_zero (unhide HK6)
          obtain ⟨f0, f1, f2, f3, f4, f5, f6, f7, f8, f9, f10⟩ := tol_free (unhide HK6)
          go_wp2_with fail
          change bodyPost _ _ _ _ _ (wrT w6 q (tol0 6 0))
          have k9 := wrT_blk (unhide HK6) rfl (tol0 6 0)
          have HO9 := hide (wrT_only w6 q (tol0 6 0))
          clear g0 g1 g2 g3 g4 g5 g6 g7 g8 g9 g10 f0 f1 f2 f3 f4 f5 f6 f7 f8 f9 f10
          generalize wrT w6 q (tol0 6 0) = w9 at k9 HO9 ⊢
          obtain ⟨d0, d1, d2, d3, d4, d5, d6, d7, d8, d9, d10⟩ := tol_cells k9
          refine bodyPost_ret (v := ((tol0 6 0)).val) (by simp [results, Tryd.results45, go_sem, d0, d1, d2, d3, d4, d5, d6, d7, d8, d9, d10, Tol.val]) rfl (stepPost_plain 6 (unhide HG) (Turned.nobody (unhide HH) ((unhide HBX).trans ((unhide HB6).mono (unhide HBX).size)) (unhide HO9) (by rw [unhide HQ]; omega)))
        | true =>
          have HG := hide ((unhide HF).trans (if_neg (by simp)))
          obtain ⟨g0, g1, g2, g3, g4, g5, g6, g7, g8, g9, g10⟩ := tol_zero (unhide HKC)
          obtain ⟨f0, f1, f2, f3, f4, f5, f6, f7, f8, f9, f10⟩ := tol_free (unhide HKC)
          go_wp2_with fail
          change bodyPost _ _ _ _ _ (wrT wc q (⟨⟨0, 0, Stk.none, ev, [], [], []⟩, none, 0, 0, none, 0, 0, none, 0, 0⟩ : Tol))
          have k9 := wrT_blk (unhide HKC) rfl (⟨⟨0, 0, Stk.none, ev, [], [], []⟩, none, 0, 0, none, 0, 0, none, 0, 0⟩ : Tol)
          have HO9 := hide (wrT_only wc q (⟨⟨0, 0, Stk.none, ev, [], [], []⟩, none, 0, 0, none, 0, 0, none, 0, 0⟩ : Tol))
          clear g0 g1 g2 g3 g4 g5 g6 g7 g8 g9 g10 f0 f1 f2 f3 f4 f5 f6 f7 f8 f9 f10
          generalize wrT wc q (⟨⟨0, 0, Stk.none, ev, [], [], []⟩, none, 0, 0, none, 0, 0, none, 0, 0⟩ : Tol) = w9 at k9 HO9 ⊢
          obtain ⟨d0, d1, d2, d3, d4, d5, d6, d7, d8, d9, d10⟩ := tol_cells k9
          refine bodyPost_ret (v := ((⟨⟨0, 0, Stk.none, ev, [], [], []⟩, none, 0, 0, none, 0, 0, none, 0, 0⟩ : Tol)).val) (by simp [results, Tryd.results45, go_sem, d0, d1, d2, d3, d4, d5, d6, d7, d8, d9, d10, Tol.val]) rfl (⟨(⟨⟨0, 0, Stk.none, ev, [], [], []⟩, none, 0, 0, none, 0, 0, none, 0, 0⟩ : Tol), rfl, by rw [unhide HG]; rfl, ⟨World.ownsRow_nil _ _ _ _, World.ownsRow_nil _ _ _ _, World.ownsRow_nil _ _ _ _⟩, by rw [unhide HG]; obtain ⟨o1, h1, h2⟩ := Turned.nobody (unhide HH) ((unhide HBX).trans ((unhide HWC).mono (unhide HBX).size)) (unhide HO9) (by rw [unhide HQ]; omega); exact ⟨o1, h1, h2, fun v hv k hk => by rcases hv with rfl | rfl | rfl <;> cases hk⟩⟩)
theorem entry_any (h : PW w c y S K base ow) (N : Nat) (hS : S.ok c N) (s : StpI) (i : Nat) (hi : i < c.n) (hw : s.who = i) :
    Calls Tryd.prog 45 #[.pointer (some ⟨y.hb, 0, none⟩), .pointer (some ⟨(y.br i).b, 0, none⟩), s.val] w (StepPost w c y K base ow (noWho (entryW c S s i).1, (entryW c S s i).2)) := by
  by_cases hb : badEntry c s
  · exact entry_bad h s i hi hb
  · exact entry_good h N hS s i hi hw hb
end
end
end Go.Proofs.YtbolcebmbpepdaaDoor
