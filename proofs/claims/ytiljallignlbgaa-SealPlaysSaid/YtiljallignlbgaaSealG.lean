/- Contract of SealPlayed (the reference). Conditions: none beyond what each theorem states. -/
import Derived.Test.YtiljallignlbgaaSealF
import Derived.Test.YtiljallignlbgaaIntRow
namespace Go.Proofs.Ytiljallignlbgaa
open Go.RowKit
set_option linter.unusedVariables false

theorem info_letterL : (Try.prog.info? 61).map (fun i => (i.zero, i.size, i.bytes)) = some (some (.agg #[.int .i64 0, .int .i64 0, .int .i64 0, .int .i64 0, .slice none 0 0]), 5, 56) := by kernel_rfl
theorem letterL_info : ∃ i, Try.prog.info? 61 = some i ∧ i.zero = some (.agg #[.int .i64 0, .int .i64 0, .int .i64 0, .int .i64 0, .slice none 0 0]) ∧ i.size = 5 ∧ i.bytes = 56 := by
  have h := info_letterL
  cases hi : Try.prog.info? 61 with
  | none => rw [hi] at h; simp at h
  | some i => rw [hi] at h; simp at h; exact ⟨i, rfl, h.1, h.2.1, h.2.2⟩
set_option maxRecDepth 100000 in
set_option maxHeartbeats 40000000 in
theorem sealPlay_ref (A : Option Addr) (n c : Nat) (l : List Lt) (B : Nat) (w : World) (hl : l.length = n) (hnc : n ≤ c) (hcm : c ≤ maxLen) (hr : Reads w B 5 A n (l.flatMap Lt.cells)) (hok : ∀ x ∈ l, x.ok w B) (hB : B ≤ w.heap.size) :
    Calls Try.prog 9 #[.slice A n c] w fun e w' => OpensPost w.heap.size (sealR (l.map (·.d))) e w w' := by
  obtain ⟨i0, hi, hz0, hz1, hz2⟩ := opened_info
  have HR := hide (hr.more hB)
  have HK := hide (fun x (hx : x ∈ l) => (hok x hx).more hB)
  have HL := hide hl
  have hm : n ≤ 9223372036854775807 := by unfold maxLen at hcm; omega
  clear hr hl hok
  by_cases h3 : 300 < n
  · have HF := hide (show sealR (l.map (·.d)) = ([], 1) by unfold sealR; rw [if_pos (by rw [List.length_map, unhide HL]; exact h3)])
    have h3' : (300 : Int) < (n : Int) := by omega
    go_enter Try.func9, Try.ntmps9
    go_wp2_with fail
    go_ret2
    rw [unhide HF]
    exact opensPost_nil (Below.refl _ _)
  have HF := hide (show sealR (l.map (·.d)) = (playRf ⟨[], []⟩ (l.map (·.d)), 0) by unfold sealR; rw [if_neg (by rw [List.length_map, unhide HL]; exact h3)])
  have h3' : (n : Int) ≤ 300 := by omega
  have hn3 : n ≤ 300 := by omega
  have hmb : ∀ k, k < n → (k + 1) * 48 ≤ 140737488355328 := fun k hk => by omega
  have HMB := hide hmb
  clear h3 hmb
  go_enter Try.func9, Try.ntmps9
  go_wp2_with fail
  go_loopw [4, 5, 6, 17] (fun v4 v5 v i wr => ∃ (k : Nat) (outs : List Od) (po : List Po) (op : List Int), k ≤ n ∧ i = .int .i64 k ∧ Hid (OutO wr w.heap.size v k outs) ∧ Hid (RfAt wr w.heap.size v4 v5 po op) ∧ Hid (po.length ≤ k ∧ op.length ≤ k) ∧ Hid ((⟨po.map (·.d), op⟩ : RfS).ok) ∧ Hid (playRf ⟨[], []⟩ (l.map (·.d)) = outs.map (·.d) ++ playRf ⟨po.map (·.d), op⟩ ((l.map (·.d)).drop k)) ∧ Below w.heap.size w wr) (fun _ _ _ i _ => n - (intOf i).toNat)
  case atStart => exact ⟨0, [], [], [], Nat.zero_le _, rfl, OutO.nil _ _, RfAt.nil _ _, ⟨Nat.le_refl _, Nat.le_refl _⟩, ⟨fun k hk => (by cases hk), fun p hp => (by cases hp), fun p hp => (by cases hp)⟩, rfl, Below.refl _ _⟩
  case round =>
    obtain ⟨k, outs, po, op, hk, rfl, HOU, HSA, HPN, HSO, HSP, hb⟩ := hrel
    by_cases hlt : k < n
    · obtain ⟨bx, p, x, rfl, _, hx, hcx⟩ := at_row Lt.cells_len (by omega) ((unhide HR).below hb) hlt (unhide HL)
      have e0 := hcx 0 _ rfl
      have e1 := hcx 1 _ rfl
      have e2 := hcx 2 _ rfl
      have e3 := hcx 3 _ rfl
      have e4 := hcx 4 _ rfl
      simp only [Nat.add_zero] at e0
      have hkn : (k : Int) < (n : Int) := by omega
      have hbs := hb.size
      have hxd : (l.map (·.d))[k]? = some x.d := by rw [List.getElem?_map, hx]; rfl
      have HXO := hide ((unhide HK x (List.mem_of_getElem? hx)).below hb)
      have HSP2 := hide (show playRf ⟨[], []⟩ (l.map (·.d)) = (outs.map (·.d) ++ [(refMv ⟨po.map (·.d), op⟩ x.d).2]) ++ playRf (refMv ⟨po.map (·.d), op⟩ x.d).1 ((l.map (·.d)).drop (k + 1)) by rw [unhide HSP, playRf_drop _ _ k x.d hxd]; simp)
      have HML := hide (refMv_ok x.d (unhide HSO))
      have HB := hide hb
      obtain ⟨⟨xk, xf, xt, xi, xd⟩, xA, xn, xc⟩ := x
      dsimp only at e0 e1 e2 e3 e4
      have hmk := unhide HMB k hlt
      clear hx hcx hb hxd HSP
      obtain ⟨p0, hp0⟩ : ∃ p0, p0 = wr.heap.size := ⟨_, rfl⟩
      obtain ⟨wy, hwy⟩ : ∃ wy, wy = (wr.alloc (.cells #[.int .i64 xk, .int .i64 xf, .int .i64 xt, .int .i64 xi, .slice xA xn xc] 61)).alloc (.cells #[.int .i64 0, .int .i64 0, .int .i64 0, .slice none 0 0] 36) := ⟨_, rfl⟩
      have hbx : Below wr.heap.size wr wy := by rw [hwy]; exact ((Below.refl _ _).alloc (Nat.le_refl _) _).alloc (by simp) _
      have k0 : Blk wy p0 61 #[.int .i64 xk, .int .i64 xf, .int .i64 xt, .int .i64 xi, .slice xA xn xc] := by rw [hwy, hp0]; exact (Blk.new wr 61 _).alloc _
      have k1 : Blk wy (p0 + 1) 36 #[.int .i64 0, .int .i64 0, .int .i64 0, .slice none 0 0] := by
        have h := Blk.new (wr.alloc (.cells #[.int .i64 xk, .int .i64 xf, .int .i64 xt, .int .i64 xi, .slice xA xn xc] 61)) 36 #[.int .i64 0, .int .i64 0, .int .i64 0, .slice none 0 0]
        rw [hwy, hp0]
        simpa using h
      have HK0 := hide k0
      have HK1 := hide k1
      have HBX := hide hbx
      have HWY := hide hwy
      have HP0 := hide hp0
      clear hbx k0 k1 hwy hp0
      go_upto_block 2 with fail
      rw [← unhide HWY, ← unhide HP0]
      clear e0 e1 e2 e3 e4
      go_cut [4, 5] (fun s4 s5 W => Hid (RfCut w.heap.size (p0 + 1) k u6 w outs (refMv ⟨po.map (·.d), op⟩ ⟨xk, xf, xt, xi, xd⟩) s4 s5 W))
      case first =>
        as_aux_lemma =>
          have q0 : wy.cell? ⟨p0, 0, none⟩ = some (.int .i64 xk) := (unhide HK0).cell 0
          have q1 : wy.cell? ⟨p0, 1, none⟩ = some (.int .i64 xf) := (unhide HK0).cell 1
          have q2 : wy.cell? ⟨p0, 2, none⟩ = some (.int .i64 xt) := (unhide HK0).cell 2
          have q3 : wy.cell? ⟨p0, 3, none⟩ = some (.int .i64 xi) := (unhide HK0).cell 3
          have q4 : wy.cell? ⟨p0, 4, none⟩ = some (.slice xA xn xc) := (unhide HK0).cell 4
          have g0 : wy.cell? ⟨p0 + 1, 0, none⟩ = some (.int .i64 0) := (unhide HK1).cell 0
          have f0 := (unhide HK1).frozen 0
          have hne : ∀ q, u6.ownBlock = some q → q ≠ p0 + 1 := fun q hq => by have := ((unhide HOU).own.lt q hq).2; have := unhide HP0; omega
          have hbp : w.heap.size ≤ p0 + 1 := by have := unhide HP0; omega
          have HBY := hide (show Below w.heap.size w wy from (unhide HB).trans ((unhide HBX).mono hbs))
          have HSAy := hide ((unhide HSA).calm (unhide HBX))
          have HOUy := hide ((unhide HOU).calm (unhide HBX))
          have code := fun (cd : Int) (W : World) (hW : Below wy.heap.size wy W) (hr : refMv ⟨po.map (·.d), op⟩ ⟨xk, xf, xt, xi, xd⟩ = (⟨po.map (·.d), op⟩, ⟨cd, 0, 0, []⟩)) => show Hid (RfCut w.heap.size (p0 + 1) k u6 w outs (refMv ⟨po.map (·.d), op⟩ ⟨xk, xf, xt, xi, xd⟩) u4 u5 (W.setCell ⟨p0 + 1, 0, none⟩ (.int .i64 cd))) from by
            have kW := (unhide HK1).below hW (unhide HK1).lt
            rw [hr]
            exact rf_fin (x := ⟨⟨cd, 0, 0, []⟩, none, 0, 0⟩) rfl rfl ((unhide HSAy).calm hW) kW (World.ownsRow_nil _ _ _ _) ((unhide HOUy).calm hW) hne ((unhide HBY).trans (hW.mono (unhide HBY).size)) hbp (Nat.le_trans (unhide HBY).size hW.size) (only_put (Only.refl _ _) _ _) (kW.set_ 0 (.int .i64 cd))
          have CODE := hide code
          clear code
          by_cases h1 : xk ≠ 1 ∧ xk ≠ 2
          · have HF := hide (unhide CODE 3 wy (Below.refl _ _) (if_pos h1))
            have e1 : (xk != 1) = true := by simpa using h1.1
            have e2 : (xk != 2) = true := by simpa using h1.2
            clear h1
            go_wp2_with fail
            go_meet
            exact unhide HF
          have hk12 : xk = 1 ∨ xk = 2 := by omega
          clear h1
          rcases hk12 with rfl | rfl
          · as_aux_lemma =>
              have hst := fun (h : partyB xt = false ∨ ((1 : Int) = 1 ∧ partyB xf = false)) => show Hid (RfCut _ _ _ _ _ _ _ _ _ _) from unhide CODE 2 wy (Below.refl _ _) (by unfold refMv; dsimp only; rw [if_neg (by omega), if_pos h])
              have HST := hide hst
              clear hst
              by_cases a1 : xt < 0
              · have HF := hide (unhide HST (.inl (by unfold partyB; rw [decide_eq_false (by omega)]; rfl)))
                go_wp2_with fail
                go_meet
                exact unhide HF
              by_cases a2 : 8 < xt
              · have HF := hide (unhide HST (.inl (by unfold partyB; rw [decide_eq_false (show ¬ xt ≤ 8 by omega)]; simp)))
                go_wp2_with fail
                go_meet
                exact unhide HF
              by_cases b1 : xf < 0
              · have HF := hide (unhide HST (.inr ⟨rfl, by unfold partyB; rw [decide_eq_false (by omega)]; rfl⟩))
                go_wp2_with fail
                go_meet
                exact unhide HF
              by_cases b2 : 8 < xf
              · have HF := hide (unhide HST (.inr ⟨rfl, by unfold partyB; rw [decide_eq_false (show ¬ xf ≤ 8 by omega)]; simp⟩))
                go_wp2_with fail
                go_meet
                exact unhide HF
              have hno : ¬ (partyB xt = false ∨ ((1 : Int) = 1 ∧ partyB xf = false)) := by
                unfold partyB
                rw [decide_eq_true (show 0 ≤ xt by omega), decide_eq_true (show xt ≤ 8 by omega), decide_eq_true (show 0 ≤ xf by omega), decide_eq_true (show xf ≤ 8 by omega)]
                simp
              have hdl : xd.length = xn := (unhide HXO).len
              by_cases b3 : 256 < xn
              · have HF := hide (unhide CODE 1 wy (Below.refl _ _) (by unfold refMv; dsimp only; rw [if_neg (by omega), if_neg hno, if_pos ⟨rfl, by omega⟩]))
                have b3' : (256 : Int) < (xn : Int) := by omega
                clear hno hdl b3
                go_wp2_with fail
                go_meet
                exact unhide HF
              · as_aux_lemma =>
                  have HF := hide (show refMv ⟨po.map (·.d), op⟩ ⟨1, xf, xt, xi, xd⟩ = (⟨po.map (·.d) ++ [⟨xf, xt, xd⟩], op⟩, ⟨0, po.length, xn, []⟩) by unfold refMv; dsimp only; rw [if_neg (by omega), if_neg hno, if_neg (by omega), if_pos rfl, List.length_map, hdl])
                  have b3' : (xn : Int) ≤ 256 := by omega
                  have hn4 : xn ≤ 256 := by omega
                  have HDL := hide hdl
                  have g1 : wy.cell? ⟨p0 + 1, 1, none⟩ = some (.int .i64 0) := (unhide HK1).cell 1
                  have g2 : wy.cell? ⟨p0 + 1, 2, none⟩ = some (.int .i64 0) := (unhide HK1).cell 2
                  have f1 := (unhide HK1).frozen 1
                  have f2 := (unhide HK1).frozen 2
                  clear hno hdl b3
                  obtain ⟨Al, cl, rfl, _⟩ := own_slice (unhide HSA).own
                  obtain ⟨q, hq⟩ : ∃ q, q = po.length := ⟨_, rfl⟩
                  have hqn : q ≤ 300 := by have := (unhide HPN).1; omega
                  have HQ := hide hq
                  rw [← hq]
                  clear hq
                  go_upto_region 28 with fail
                  obtain ⟨wz, hwz⟩ : ∃ wz, wz = (wy.setCell ⟨p0 + 1, 1, none⟩ (.int .i64 q)).setCell ⟨p0 + 1, 2, none⟩ (.int .i64 xn) := ⟨_, rfl⟩
                  have hOz : Only (fun k => k = p0 + 1) wy wz := by rw [hwz]; exact only_put (only_put (Only.refl _ _) _ _) _ _
                  have k1z : Blk wz (p0 + 1) 36 #[.int .i64 0, .int .i64 q, .int .i64 xn, .slice none 0 0] := by rw [hwz]; exact ((unhide HK1).set_ 1 _).set_ 2 _
                  have k0z := (unhide HK0).only hOz (fun e => by omega)
                  have HSAz := hide ((unhide HSAy).boxed (unhide HK1) hOz)
                  have HOUz := hide ((unhide HOUy).only hOz hne (fun y hy k hk e => own_blk_ne ((unhide HOUy).rows y hy) (unhide HK1) (by decide) (by rw [hk, e])))
                  have HBZ := hide ((unhide HBY).trans (hOz.to_below (fun x hx _ e => by omega) (unhide HBY).size))
                  have HRD := hide (show Reads wz w.heap.size 1 xA xn (xd.map (.int .u8)) from ((unhide HXO).rd.below ((unhide HBX).mono hbs)).only hOz (unhide HBY).size (fun x hx e => by omega))
                  have HCAP := hide (show xn ≤ xc ∧ xc ≤ maxLen from ⟨(unhide HXO).cap, (unhide HXO).max⟩)
                  have hswz : w.heap.size ≤ wz.heap.size := (unhide HBZ).size
                  obtain ⟨i2, hi2, hx0, hx1, hx2⟩ := cloneB_info
                  obtain ⟨i3, hi3, hy0, hy1, hy2⟩ := letterL_info
                  have r1 := fun n : Ext wz => n.cell (k0z.cell 1)
                  have r2 := fun n : Ext wz => n.cell (k0z.cell 2)
                  have r4 := fun n : Ext wz => n.cell (k0z.cell 4)
                  have h63 : 0 + xn ≤ maxLen := by unfold maxLen; omega
                  have hby : (0 + xn) * 1 ≤ 140737488355328 := by omega
                  have hmq : (q + 1) * 56 ≤ 140737488355328 := by omega
                  rw [← hwz]
                  have HK0z := hide k0z
                  have HK1z := hide k1z
                  clear hwz hOz k1z k0z q0 q1 q2 q3 q4 g0 g1 g2 f0 f1 f2
                  refine wp_region_calm_full [0] [1, 2, 3, 4, 5, 6] [] [7, 8, 9] 10 [11] (by kernel_rfl) (by kernel_rfl) (by intro c a d v w h; cases d <;> exact h) ?_
                  simp only [pickOps, List.map_cons, List.map_nil, List.getD_cons_zero, List.getD_cons_succ]
                  repeat (go_big_quiet_step (fail))
                  refine wpQuiet_nil ?_
                  repeat (go_big_quiet_step (fail))
                  refine wpQuiet_nil (wpQuiet_nil ?_)
                  rintro _ ⟨nq, rfl⟩
                  simp only [wpAl]
                  have hnq := nq.h
                  have HRQ := hide ((unhide HRD).below (hnq.mono hswz))
                  have HNQ := hide hnq
                  have hsq := hnq.size
                  obtain ⟨W0, hW0⟩ : ∃ W0, W0 = nq.W := ⟨_, rfl⟩
                  rw [← hW0] at hnq hsq HRQ HNQ
                  rw [← hW0]
                  clear hW0 hnq r1 r2 r4
                  go_wp2_with (first
                    | (at_builtin; (refine wpList_append_any _ rfl (.const (.slice none 0 0)) (.tmp 145) _ rfl wz.heap.size 5 i2 _ 1 1 Try.underlying34 hi2 hx0 hx1 hx2 rfl (by omega) _ 0 _ rfl (World.ownsRow_nil _ _ _ _) w.heap.size xA xn xc (xd.map (.int .u8)) rfl (unhide HRQ) (ints_one2 .u8 xd) h63 hby hsq ?_); intro v6 w6 hown6 hg6 _; have hb6 := rf_below hg6; have HO6 := hide (show w6.ownsRow wz.heap.size 5 1 v6 xn (xd.map (.int .u8)) by simpa using hown6); have HB6 := hide ((unhide HNQ).trans (hb6.mono hsq)); clear hown6 hg6 hb6))
                  obtain ⟨A6, c6, rfl, _⟩ := own_slice (unhide HO6)
                  refine ⟨⟨⟨w6, unhide HB6⟩, rfl⟩, ?_⟩
                  go_wp2_with fail
                  refine ⟨⟨⟨w6, unhide HB6⟩, rfl⟩, ?_⟩
                  go_wp2_with fail
                  refine ⟨⟨⟨_, (unhide HB6).alloc (unhide HB6).size _⟩, rfl⟩, ?_⟩
                  have HSA6 := hide ((unhide HSAz).calm (unhide HB6))
                  have HOU6 := hide ((unhide HOUz).calm (unhide HB6))
                  have HK6 := hide ((unhide HK1z).below (unhide HB6) (unhide HK1z).lt)
                  have hs6 : w.heap.size ≤ w6.heap.size := Nat.le_trans hswz (unhide HB6).size
                  go_wp2_with (first
                    | (at_builtin; (refine wpList_append_new _ rfl (.tmp 139) (.tmp 148) _ rfl w.heap.size 61 i3 _ 5 56 Try.underlying30 hi3 hy0 hy1 hy2 rfl (by omega) (by omega) _ _ _ (unhide HSA6).own (by rw [← unhide HQ]; rfl) _ 1 _ rfl rfl rfl (by simp [Value.oneCell']) (by rw [← unhide HQ]; exact hmq) hs6 ?_); intro g4 cap4 w8 hg4 hown4 hbel4 hgr4 hat4))
                  go_meet
                  rw [unhide HF]
                  have hx8 : PoOwn ⟨⟨xf, xt, xd⟩, A6, xn, c6⟩ w6 w.heap.size := own_mono (unhide HO6) hswz
                  exact ⟨po ++ [⟨⟨xf, xt, xd⟩, A6, xn, c6⟩], ⟨⟨0, q, xn, []⟩, none, 0, 0⟩, by simp, by rw [unhide HQ], (unhide HSA6).posts (x := ⟨⟨xf, xt, xd⟩, A6, xn, c6⟩) hx8 hgr4 hown4, (unhide HK6).grown hgr4 (Ne.symm (own_blk_ne (unhide HSA6).own (unhide HK6) (by decide))), World.ownsRow_nil _ _ _ _, (unhide HOU6).grown (unhide HSA6).own (by decide) (by decide) hgr4, hbel4 _ _ (Nat.le_refl _) ((unhide HBZ).trans ((unhide HB6).mono hswz))⟩
          · as_aux_lemma =>
              by_cases a1 : xt < 0
              · have HF := hide (unhide CODE 2 wy (Below.refl _ _) (by unfold refMv; dsimp only; rw [if_neg (by omega), if_pos (.inl (by unfold partyB; rw [decide_eq_false (by omega)]; rfl))]))
                go_wp2_with fail
                go_meet
                exact unhide HF
              by_cases a2 : 8 < xt
              · have HF := hide (unhide CODE 2 wy (Below.refl _ _) (by unfold refMv; dsimp only; rw [if_neg (by omega), if_pos (.inl (by unfold partyB; rw [decide_eq_false (show ¬ xt ≤ 8 by omega)]; simp))]))
                go_wp2_with fail
                go_meet
                exact unhide HF
              have hst : refMv ⟨po.map (·.d), op⟩ ⟨2, xf, xt, xi, xd⟩ = if xi < 0 then (⟨po.map (·.d), op⟩, ⟨6, 0, 0, []⟩)
                  else match (po.map (·.d))[xi.toNat]? with
                    | none => (⟨po.map (·.d), op⟩, ⟨6, 0, 0, []⟩)
                    | some p => if p.to_ ≠ xt then (⟨po.map (·.d), op⟩, ⟨11, 0, 0, []⟩) else if isOld (po.map (·.d)) op p.fr xt xi = true then (⟨po.map (·.d), op⟩, ⟨10, 0, 0, []⟩) else (⟨po.map (·.d), op ++ [xi]⟩, ⟨0, xi, p.data.length, p.data⟩) := by
                have hno : ¬ (partyB xt = false ∨ ((2 : Int) = 1 ∧ partyB xf = false)) := by
                  unfold partyB
                  rw [decide_eq_true (show 0 ≤ xt by omega), decide_eq_true (show xt ≤ 8 by omega)]
                  simp
                unfold refMv
                dsimp only
                rw [if_neg (by omega), if_neg hno, if_neg (by omega), if_neg (by omega)]
                rfl
              have HST := hide hst
              clear hst
              by_cases d1 : xi < 0
              · have HF := hide (unhide CODE 6 wy (Below.refl _ _) (by rw [unhide HST, if_pos d1]))
                go_wp2_with fail
                go_meet
                exact unhide HF
              obtain ⟨j, rfl⟩ := Int.eq_ofNat_of_zero_le (show 0 ≤ xi by omega)
              obtain ⟨Al, cl, rfl, _⟩ := own_slice (unhide HSA).own
              obtain ⟨q, hq⟩ : ∃ q, q = po.length := ⟨_, rfl⟩
              have hqn : q ≤ 300 := by have := (unhide HPN).1; omega
              have HQ := hide hq
              by_cases d2 : q ≤ j
              · have HF := hide (unhide CODE 6 wy (Below.refl _ _) (by rw [unhide HST, if_neg d1, Int.toNat_natCast, List.getElem?_eq_none (by rw [List.length_map]; omega)]))
                have d2' : (q : Int) ≤ (j : Int) := by omega
                have hqi : (q : Int) = po.length := by omega
                rw [← hq] at HF ⊢
                clear hq hqi
                go_wp2_with fail
                go_meet
                exact unhide HF
              have hjq : j < po.length := by omega
              obtain ⟨bl, o, y, rfl, hbl, hy, hcy⟩ := at_row Po.cellsL_len (by omega) (Reads.of_own (unhide HSAy).own) hjq rfl
              have HYO := hide ((unhide HSAy).rows y (List.mem_of_getElem? hy))
              obtain ⟨⟨yf, yt, yd⟩, yA, yn, yc⟩ := y
              have t1 : wy.cell? ⟨bl, o + j * 5 + 1, none⟩ = some (.int .i64 yf) := hcy 1 _ rfl
              have t2 : wy.cell? ⟨bl, o + j * 5 + 2, none⟩ = some (.int .i64 yt) := hcy 2 _ rfl
              have t4 : wy.cell? ⟨bl, o + j * 5 + 4, none⟩ = some (.slice yA yn yc) := hcy 4 _ rfl
              have HST2 := hide (show refMv ⟨po.map (·.d), op⟩ ⟨2, xf, xt, j, xd⟩ = if yt ≠ xt then (⟨po.map (·.d), op⟩, ⟨11, 0, 0, []⟩) else if isOld (po.map (·.d)) op yf xt j = true then (⟨po.map (·.d), op⟩, ⟨10, 0, 0, []⟩) else (⟨po.map (·.d), op ++ [(j : Int)]⟩, ⟨0, j, yd.length, yd⟩) by
                rw [unhide HST, if_neg d1, Int.toNat_natCast, List.getElem?_map, hy]; rfl)
              have hjq' : (j : Int) < (q : Int) := by omega
              have HYY := hide hy
              rw [← hq]
              clear hq hcy hjq d1 hy
              by_cases d3 : yt = xt
              · as_aux_lemma =>
                  subst d3
                  have hopn := (unhide HSAy).opn
                  obtain ⟨Ao, co, rfl, _⟩ := own_slice hopn
                  obtain ⟨m, hm⟩ : ∃ m, m = op.length := ⟨_, rfl⟩
                  have hmn : m ≤ 300 := by have := (unhide HPN).2; omega
                  have HM := hide hm
                  have hmm : (m : Int) ≤ 9223372036854775807 := by omega
                  rw [← hm]
                  obtain ⟨wo, rfl⟩ : ∃ wo : World, wo = wr := ⟨_, rfl⟩
                  clear hm hopn
                  have d3' : (yt != yt) = false := by simp
                  go_wp2_with fail
                  go_quiet (fail)
                  go_wp2_with fail
                  go_loopw [23] (fun i W => ∃ t : Nat, t ≤ m ∧ i = .int .i64 t ∧ Hid (Blk W (p0 + 1) 36 #[.int .i64 (if isOld (po.map (·.d)) (op.take t) yf yt j = true then 10 else 0), .int .i64 0, .int .i64 0, .slice none 0 0]) ∧ Hid (Only (fun k => k = p0 + 1) wy W)) (fun i _ => m - (intOf i).toNat)
                  case atStart => exact ⟨0, Nat.zero_le _, rfl, (unhide HK1).drewN nq, (Only.refl _ wy).drewN nq⟩
                  case round =>
                    obtain ⟨t, ht, rfl, HKW, HOW⟩ := hrel
                    by_cases htm : t < m
                    · as_aux_lemma =>
                        have hrf := (unhide HSAy).boxed (unhide HK1) (unhide HOW)
                        obtain ⟨bo, oo, z, rfl, _, hz, hcz⟩ := at_num (Reads.of_own hrf.opn) (show t < op.length by have := unhide HM; omega)
                        have hzz := (unhide HSO).each z (List.mem_of_getElem? hz)
                        obtain ⟨zn, rfl⟩ := Int.eq_ofNat_of_zero_le hzz.1
                        have hzq : zn < q := by have h1 := hzz.2; dsimp only at h1; rw [List.length_map] at h1; have := unhide HQ; omega
                        obtain ⟨y2, hy2⟩ : ∃ y2, po[zn]? = some y2 := ⟨_, List.getElem?_eq_getElem (by have := unhide HQ; omega)⟩
                        obtain ⟨s1, s2, _⟩ := hrf.cellsAt hy2
                        obtain ⟨v1, v2, _⟩ := hrf.cellsAt (unhide HYY)
                        have HTK := hide (isOld_take (po.map (·.d)) op yf yt j zn t hz)
                        have HWI := hide (show wayIs (po.map (·.d)) yf yt zn = (decide (y2.d.fr = yf) && decide (y2.d.to_ = yt)) by unfold wayIs; rw [Int.toNat_natCast, List.getElem?_map, hy2]; rfl)
                        obtain ⟨⟨y2f, y2t, y2d⟩, y2A, y2n, y2c⟩ := y2
                        dsimp only at s1 s2 v1 v2 HWI
                        have kx := (unhide HK0).only (unhide HOW) (fun e => by omega)
                        have r2 := kx.cell 2
                        have r3 := kx.cell 3
                        have b0 : wr.cell? ⟨p0 + 1, 0, none⟩ = some (.int .i64 (if isOld (po.map (·.d)) (op.take t) yf yt j = true then 10 else 0)) := (unhide HKW).cell 0
                        have bf := (unhide HKW).frozen 0
                        have HRFW := hide hrf
                        have htm' : (t : Int) < (m : Int) := by omega
                        have hzq' : (zn : Int) < (q : Int) := by omega
                        clear hrf hz hzz hy2 kx t1 t2 t4 q0 q1 q2 q3 q4 g0 f0
                        by_cases c1 : j ≤ zn
                        · by_cases c2 : y2f = yf
                          · by_cases c3 : y2t = yt
                            · have HS := hide (show isOld (po.map (·.d)) (op.take (t + 1)) yf yt j = true by rw [unhide HTK, unhide HWI, decide_eq_true (show (j : Int) ≤ (zn : Int) by omega), decide_eq_true c2, decide_eq_true c3]; simp)
                              have c1' : (j : Int) ≤ (zn : Int) := by omega
                              subst c2 c3
                              go_wp2_with fail
                              go_quiet (fail)
                              go_wp2_with fail
                              go_roundw
                              case rel => exact ⟨t + 1, by omega, by go_num, by rw [unhide HS, if_pos rfl]; exact ((unhide HKW).drewN _).set_ 0 (.int .i64 10), only_put ((unhide HOW).drewN _) 0 _⟩
                              case measure => simp [intOf]; omega
                            · have HS := hide (show isOld (po.map (·.d)) (op.take (t + 1)) yf yt j = isOld (po.map (·.d)) (op.take t) yf yt j by rw [unhide HTK, unhide HWI, decide_eq_false c3]; simp)
                              have c1' : (j : Int) ≤ (zn : Int) := by omega
                              have c3' : (y2t == yt) = false := by simpa using c3
                              subst c2
                              clear c3 c1
                              go_wp2_with fail
                              go_quiet (fail)
                              go_wp2_with fail
                              go_roundw
                              case rel => exact ⟨t + 1, by omega, by go_num, by rw [unhide HS]; exact (unhide HKW).drewN _, (unhide HOW).drewN _⟩
                              case measure => simp [intOf]; omega
                          · have HS := hide (show isOld (po.map (·.d)) (op.take (t + 1)) yf yt j = isOld (po.map (·.d)) (op.take t) yf yt j by rw [unhide HTK, unhide HWI, decide_eq_false c2]; simp)
                            have c1' : (j : Int) ≤ (zn : Int) := by omega
                            have c2' : (y2f == yf) = false := by simpa using c2
                            clear c2 c1
                            go_wp2_with fail
                            go_quiet (fail)
                            go_wp2_with fail
                            go_roundw
                            case rel => exact ⟨t + 1, by omega, by go_num, by rw [unhide HS]; exact (unhide HKW).drewN _, (unhide HOW).drewN _⟩
                            case measure => simp [intOf]; omega
                        · have HS := hide (show isOld (po.map (·.d)) (op.take (t + 1)) yf yt j = isOld (po.map (·.d)) (op.take t) yf yt j by rw [unhide HTK, decide_eq_false (show ¬ (j : Int) ≤ (zn : Int) by omega)]; simp)
                          have c1' : (zn : Int) < (j : Int) := by omega
                          have c1b : decide (j ≤ zn) = false := decide_eq_false c1
                          clear c1
                          go_wp2_with fail
                          go_quiet (fail)
                          go_wp2_with fail
                          go_roundw
                          case rel => exact ⟨t + 1, by omega, by go_num, by rw [unhide HS]; exact (unhide HKW).drewN _, (unhide HOW).drewN _⟩
                          case measure => simp [intOf]; omega
                    · as_aux_lemma =>
                        obtain rfl : t = m := by omega
                        have htk : op.take t = op := List.take_of_length_le (by have := unhide HM; omega)
                        rw [htk] at HKW
                        have HRFW := hide ((unhide HSAy).boxed (unhide HK1) (unhide HOW))
                        have HOUW := hide ((unhide HOUy).only (unhide HOW) hne (fun y hy k hk e => own_blk_ne ((unhide HOUy).rows y hy) (unhide HK1) (by decide) (by rw [hk, e])))
                        have HBW := hide ((unhide HBY).trans ((unhide HOW).to_below (fun x hx _ e => by omega) (unhide HBY).size))
                        have kx := (unhide HK0).only (unhide HOW) (fun e => by omega)
                        have HKX := hide kx
                        have r3 : wr.cell? ⟨p0, 3, none⟩ = some (.int .i64 j) := kx.cell 3
                        clear htk kx t1 t2 t4 q0 q1 q2 q3 q4 g0 f0
                        cases hold : isOld (po.map (·.d)) op yf yt j with
                        | true =>
                          rw [hold, if_pos rfl] at HKW
                          have HF := hide (show refMv ⟨po.map (·.d), op⟩ ⟨2, xf, yt, j, xd⟩ = (⟨po.map (·.d), op⟩, ⟨10, 0, 0, []⟩) by rw [unhide HST2, if_neg (fun e => e rfl), if_pos hold])
                          clear hold
                          have b0 : wr.cell? ⟨p0 + 1, 0, none⟩ = some (.int .i64 10) := (unhide HKW).cell 0
                          go_wp2_with fail
                          go_meet
                          rw [unhide HF]
                          exact ⟨po, ⟨⟨10, 0, 0, []⟩, none, 0, 0⟩, rfl, rfl, by rw [unhide HQ, unhide HM] at *; exact unhide HRFW, unhide HKW, World.ownsRow_nil _ _ _ _, unhide HOUW, unhide HBW⟩
                        | false =>
                          rw [hold, if_neg (by decide)] at HKW
                          have HF := hide (show refMv ⟨po.map (·.d), op⟩ ⟨2, xf, yt, j, xd⟩ = (⟨po.map (·.d), op ++ [(j : Int)]⟩, ⟨0, j, yd.length, yd⟩) by rw [unhide HST2, if_neg (fun e => e rfl), if_neg (by rw [hold]; decide)])
                          clear hold
                          have b0 : wr.cell? ⟨p0 + 1, 0, none⟩ = some (.int .i64 0) := (unhide HKW).cell 0
                          have hsw : w.heap.size ≤ wr.heap.size := (unhide HBW).size
                          have hmt : (t + 1) * 8 ≤ 140737488355328 := by omega
                          obtain ⟨i2, hi2, hx0, hx1, hx2⟩ := int_info
                          go_upto_region 18 with (first
                            | (at_builtin; (refine wpList_append_new _ rfl (.tmp 60) (.tmp 63) _ rfl w.heap.size 3 i2 _ 1 8 Try.underlying43 hi2 hx0 hx1 hx2 rfl (by omega) (by omega) _ _ _ (unhide HRFW).opn (by rw [← unhide HM]; rfl) _ 1 _ rfl rfl rfl (by simp [Value.oneCell']) (by rw [← unhide HM]; exact hmt) hsw ?_); intro g4 cap4 w8 hg4 hown4 hbel4 hgr4 hat4))
                          have HRF8 := hide ((unhide HRFW).opens (id := (j : Int)) hgr4 (by simpa using hown4))
                          have HOU8 := hide ((unhide HOUW).grown (unhide HRFW).opn (by decide) (by decide) hgr4)
                          have HK8 := hide ((unhide HKW).grown hgr4 (Ne.symm (own_blk_ne (unhide HRFW).opn (unhide HKW) (by decide))))
                          have HB8 := hide (hbel4 _ _ (Nat.le_refl _) (unhide HBW))
                          have kx8 := (unhide HKX).grown hgr4 (Ne.symm (own_blk_ne (unhide HRFW).opn (unhide HKX) (by decide)))
                          obtain ⟨_, _, v4⟩ := (unhide HRF8).cellsAt (unhide HYY)
                          have HYO8 := hide ((unhide HRF8).rows _ (List.mem_of_getElem? (unhide HYY)))
                          have HYL := hide (show yd.length = yn by have := (unhide HYO8).1; simpa using this)
                          have hyn : yn ≤ 1000000 := by have h1 := (unhide HSO).small _ (List.mem_map.2 ⟨_, List.mem_of_getElem? (unhide HYY), rfl⟩); dsimp only at h1; have := unhide HYL; omega
                          have s3 := fun n : Ext w8 => n.cell (kx8.cell 3)
                          have s4 := fun n : Ext w8 => n.cell v4
                          have h63 : 0 + yn ≤ maxLen := by unfold maxLen; omega
                          have hby : (0 + yn) * 1 ≤ 140737488355328 := by omega
                          obtain ⟨i3, hi3, hy0, hy1, hy2⟩ := cloneB_info
                          have hs8 : w.heap.size ≤ w8.heap.size := (unhide HB8).size
                          clear kx8 v4 hown4 hbel4 hgr4 hat4 hg4 b0 r3
                          refine wp_region_calm_full [2, 9] [0, 1, 3, 4, 5, 6, 7, 8, 10, 11, 12, 13, 14] [] [15, 16] 17 [] (by kernel_rfl) (by kernel_rfl) (by intro c a d v w h; cases d <;> exact h) ?_
                          simp only [pickOps, List.map_cons, List.map_nil, List.getD_cons_zero, List.getD_cons_succ]
                          repeat (go_big_quiet_step (fail))
                          refine wpQuiet_nil ?_
                          repeat (go_big_quiet_step (fail))
                          refine wpQuiet_nil (wpQuiet_nil ?_)
                          rintro _ ⟨nq2, rfl⟩
                          simp only [wpAl]
                          have hnq := nq2.h
                          have HRQ := hide ((Reads.of_own (unhide HYO8)).below hnq)
                          have hsq := hnq.size
                          obtain ⟨W0, hW0⟩ : ∃ W0, W0 = nq2.W := ⟨_, rfl⟩
                          rw [← hW0] at hnq hsq HRQ
                          have HNQ := hide hnq
                          rw [← hW0]
                          clear hW0 hnq s3 s4
                          dsimp only at HRQ
                          go_wp2_with (first
                            | (at_builtin; (refine wpList_append_any _ rfl (.const (.slice none 0 0)) (.tmp 79) _ rfl w8.heap.size 5 i3 _ 1 1 Try.underlying34 hi3 hy0 hy1 hy2 rfl (by omega) _ 0 _ rfl (World.ownsRow_nil _ _ _ _) w8.heap.size yA yn yc (yd.map (.int .u8)) rfl (unhide HRQ) (ints_one2 .u8 yd) h63 hby hsq ?_); intro v6 w6 hown6 hg6 _; have hb6 := rf_below hg6; have HO6 := hide (show w6.ownsRow w8.heap.size 5 1 v6 yn (yd.map (.int .u8)) by simpa using hown6); have HB6 := hide ((unhide HNQ).trans (hb6.mono hsq)); clear hown6 hg6 hb6))
                          obtain ⟨A6, c6, rfl, _⟩ := own_slice (unhide HO6)
                          have HK6 := hide ((unhide HK8).below (unhide HB6) (unhide HK8).lt)
                          refine ⟨⟨⟨w6, unhide HB6⟩, rfl⟩, ?_⟩
                          go_wp2_with fail
                          refine ⟨⟨⟨w6, unhide HB6⟩, rfl⟩, ?_⟩
                          have y0 : w6.cell? ⟨p0 + 1, 0, none⟩ = some (.int .i64 0) := (unhide HK6).cell 0
                          have y1 : w6.cell? ⟨p0 + 1, 1, none⟩ = some (.int .i64 0) := (unhide HK6).cell 1
                          have y2 : w6.cell? ⟨p0 + 1, 2, none⟩ = some (.int .i64 0) := (unhide HK6).cell 2
                          have y3 : w6.cell? ⟨p0 + 1, 3, none⟩ = some (.slice none 0 0) := (unhide HK6).cell 3
                          have g0 := (unhide HK6).frozen 0
                          have g1 := (unhide HK6).frozen 1
                          have g2 := (unhide HK6).frozen 2
                          have g3 := (unhide HK6).frozen 3
                          go_wp2_with fail
                          go_meet
                          rw [unhide HF]
                          have hs6 : w.heap.size ≤ w6.heap.size := Nat.le_trans hs8 (unhide HB6).size
                          exact rf_fin (x := ⟨⟨0, j, yn, yd⟩, A6, yn, c6⟩) rfl (by rw [unhide HYL]) (by rw [unhide HQ, unhide HM] at *; exact (unhide HRF8).calm (unhide HB6)) (unhide HK6) (own_mono (unhide HO6) hs8) ((unhide HOU8).calm (unhide HB6)) hne ((unhide HB8).trans ((unhide HB6).mono hs8)) hbp hs6 (only_put (only_put (only_put (only_put (Only.refl _ _) _ _) _ _) _ _) _ _) (blk_opened (unhide HK6) _ _ _ _)
              · have HF := hide (fun n => unhide CODE 11 (wy.drewN n) (below_drewN (Below.refl _ _) n) (by rw [unhide HST2, if_pos d3]))
                have d3' : (yt != xt) = true := by simpa using d3
                rw [← unhide HQ] at HF
                clear d3
                go_wp2_with fail
                go_quiet (fail)
                go_wp2_with fail
                go_meet
                exact unhide HF _
      case rest =>
        as_aux_lemma =>
          obtain ⟨po2, ⟨⟨rc, ri, rs, rd⟩, rA, rn, rcap⟩, hl2, hx2, hrf2, kF, hdo, hou2, hbF⟩ := unhide hcut
          have m0 : wc.cell? ⟨p0 + 1, 0, none⟩ = some (.int .i64 rc) := kF.cell 0
          have m1 : wc.cell? ⟨p0 + 1, 1, none⟩ = some (.int .i64 ri) := kF.cell 1
          have m2 : wc.cell? ⟨p0 + 1, 2, none⟩ = some (.int .i64 rs) := kF.cell 2
          have m3 : wc.cell? ⟨p0 + 1, 3, none⟩ = some (.slice rA rn rcap) := kF.cell 3
          have hown3 := hou2.own
          obtain ⟨A0, c0, rfl, _⟩ := own_slice hown3
          have hwc : w.heap.size ≤ wc.heap.size := hbF.size
          have HOW3 := hide hown3
          have HOU3 := hide hou2
          have HRF := hide hrf2
          have HB3 := hide hbF
          have HNW := hide hdo
          have HL2 := hide hl2
          have HX2 := hide hx2
          clear hcut hl2 hx2 hrf2 kF hdo hou2 hbF hown3
          go_wp2_with (first
            | (at_builtin; (refine wpList_append_new _ rfl (.tmp 173) (.tmp 175) _ rfl w.heap.size 36 i0 _ 4 48 Try.underlying31 hi hz0 hz1 hz2 rfl (by omega) (by omega) _ _ _ (unhide HOW3) rfl _ 1 _ rfl rfl rfl (by simp [Value.oneCell']) hmk hwc ?_); intro g4 cap4 w4 hg4 hown4 hbel4 hgr4 hat4))
          have HO4 := hide ((unhide HOU3).grows _ (unhide HNW) hgr4 hown4)
          have HS4 := hide ((unhide HRF).grown (unhide HOW3) (by decide) (by decide) (by decide) hgr4)
          have HB4 := hide (hbel4 _ _ (Nat.le_refl _) (unhide HB3))
          clear hown4 hbel4 hgr4 hat4 hg4
          go_roundw
          case rel =>
            have h3 := unhide HL2
            have h4 := unhide HX2
            dsimp only at h4
            have h5 := unhide HML
            dsimp only at h5
            rw [List.length_map] at h5
            have h6 := unhide HPN
            exact ⟨k + 1, outs ++ [⟨⟨rc, ri, rs, rd⟩, rA, rn, rcap⟩], po2, _, by omega, by go_num, HO4, HS4, ⟨by rw [← h3, List.length_map] at h5; omega, by omega⟩, by rw [h3]; exact h5.1, by rw [List.map_append, h3]; exact (show playRf ⟨[], []⟩ (l.map (·.d)) = _ by rw [unhide HSP2]; rw [h4]; rfl), unhide HB4⟩
          case measure => simp [intOf]; omega
    · obtain rfl : k = n := by omega
      have HF2 := hide (show sealR (l.map (·.d)) = (outs.map (·.d), 0) by
        rw [unhide HF, unhide HSP, List.drop_of_length_le (by rw [List.length_map, unhide HL]; exact Nat.le_refl _)]
        simp [playRf])
      have HOU2 := hide (unhide HOU)
      obtain ⟨A0, c0, rfl, _⟩ := own_slice (unhide HOU).own
      have HB := hide hb
      clear hb HSA HPN HSP HSO
      go_wp2_with fail
      go_ret2
      rw [unhide HF2]
      exact ⟨_, outs, rfl, rfl, by rw [(unhide HOU2).len]; exact unhide HOU2, unhide HB⟩
end Go.Proofs.Ytiljallignlbgaa
