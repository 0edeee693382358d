/- The contract of clock.Play. Conditions: none beyond what each theorem states. -/
import Derived.Test.YtickpflebmecpaaClockE
namespace Go.Proofs.Ytickpflebmecpaa
open Go.RowKit
set_option linter.unusedVariables false

set_option maxHeartbeats 1600000 in
theorem clockPlay_any (sites : Int) (A : Option Addr) (n c : Nat) (es : List Ev) (B : Nat) (w : World) (hl : es.length = n) (hnc : n ≤ c) (hcm : c ≤ maxLen) (hr : Reads w B 3 A n (es.flatMap Ev.cells)) (hB : B ≤ w.heap.size) :
    Calls Try.prog 14 #[.int .i64 sites, .slice A n c] w fun e w' => TabPost w.heap.size (playR sites es) e w w' := by
  obtain ⟨i0, hi, hi0, hi1, hi2⟩ := int_info
  obtain ⟨ir, hir, hr0, hr1, hr2⟩ := row_info
  have hm : n ≤ 9223372036854775807 := by unfold maxLen at hcm; omega
  have HL := hide hl
  have HR := hide (hr.more hB)
  clear hr hl
  by_cases h1 : sites < 1
  · have HF := hide (play_range (es := es) (.inl h1))
    go_enter Try.func14, Try.ntmps14
    go_wp2_with fail
    go_ret2
    rw [unhide HF]
    exact tabPost_nil _ _ _ (Below.refl _ _)
  by_cases h2 : 8 < sites
  · have HF := hide (play_range (es := es) (.inr h2))
    have h1' : 1 ≤ sites := by omega
    clear h1
    go_enter Try.func14, Try.ntmps14
    go_wp2_with fail
    go_ret2
    rw [unhide HF]
    exact tabPost_nil _ _ _ (Below.refl _ _)
  obtain ⟨s, rfl⟩ := Int.eq_ofNat_of_zero_le (show 0 ≤ sites by omega)
  have hs1 : 1 ≤ s := by omega
  have hs8 : s ≤ 8 := by omega
  have h1' : (1 : Int) ≤ (s : Int) := by omega
  have h2' : (s : Int) ≤ 8 := by omega
  by_cases h3 : 200 < n
  · have HF := hide (play_long (es := es) h1' h2' (by rw [unhide HL]; exact h3))
    have h3' : (200 : Int) < (n : Int) := by omega
    clear h1 h2
    go_enter Try.func14, Try.ntmps14
    go_wp2_with fail
    go_ret2
    rw [unhide HF]
    exact tabPost_nil _ _ _ (Below.refl _ _)
  have h3' : (n : Int) ≤ 200 := by omega
  have hn2 : n ≤ 200 := by omega
  have hmk := fun W => run_make_rowN (P := Try.prog) 22 3 i0 _ Try.underlying22 hi hi0 .i64 .i64 s s (Nat.le_refl _) (by rw [hi2]; omega) (by omega) W
  rw [hi1, Nat.mul_one] at hmk
  have hmk2 := fun W => run_make_rowN (P := Try.prog) 31 22 ir _ Try.underlying31 hir hr0 .i64 .i64 s s (Nat.le_refl _) (by rw [hr2]; omega) (by omega) W
  rw [hr1, Nat.mul_one] at hmk2
  clear h1 h2 h3
  have HS := hide (show Hdr (w.alloc (.cells (madeCells (Value.slice none 0 0).cells s) 22)) w.heap.size [] s by
    unfold Hdr
    have e : (([] : List ORw).map ORw.val ++ List.replicate s (Value.slice none 0 0)).toArray = madeCells (Value.slice none 0 0).cells s := by
      rw [← Array.toList_inj]
      simp [Value.cells, toList_madeCells_one]
    rw [e]
    exact Blk.new w 22 _)
  have HB := hide ((Below.refl w.heap.size w).alloc (Nat.le_refl _) (.cells (madeCells (Value.slice none 0 0).cells s) 22))
  go_enter Try.func14, Try.ntmps14
  go_wp2_with fail
  go_loopw [26] (fun i wr => ∃ (k : Nat) (L : List ORw), k ≤ s ∧ i = .int .i64 k ∧ Hid (Hdr wr w.heap.size L (s - k)) ∧ Hid (RowsOk wr (w.heap.size + 1) L) ∧ Hid (L.map (·.zs) = (List.range k).map fun _ => List.replicate s 0) ∧ Below w.heap.size w wr) (fun i _ => s - (intOf i).toNat)
  case atStart => exact ⟨0, [], Nat.zero_le _, rfl, HS, RowsOk.nil _ _, rfl, unhide HB⟩
  case round =>
    obtain ⟨k, L, hk, rfl, H1, H2, H3, hb⟩ := hrel
    have hbs := hb.size
    have hN := Blk.lt (unhide H1)
    by_cases hlt : k < s
    · obtain ⟨m, hm'⟩ : ∃ m, s - k = m + 1 := ⟨s - k - 1, by omega⟩
      rw [hm'] at H1
      have hmk' : s - (k + 1) = m := by omega
      have hLk : L.length = k := by have := congrArg List.length (unhide H3); simpa using this
      obtain ⟨c0, f0, h4, h5⟩ := mk_step (s := s) (unhide H1) (unhide H2) (by omega) (by unfold maxLen; omega) hLk
      have H4 := hide h4
      have H5 := hide h5
      have HB1 := hide hb
      have HM := hide hmk'
      have hki : (k : Int) < (s : Int) := by omega
      have H6 := hide (show (L ++ [⟨wr.heap.size, s, List.replicate s 0, []⟩] : List ORw).map (·.zs) = (List.range (k + 1)).map fun _ => List.replicate s 0 by
        rw [List.map_append, unhide H3, List.range_succ, List.map_append]; rfl)
      clear H1 H2 H3 hm' hLk h4 h5 hb hmk'
      go_wp2_with fail
      go_roundw
      case rel => exact ⟨k + 1, _, by omega, by go_num, by rw [unhide HM]; exact H4, H5, H6, ((unhide HB1).setCell (Nat.le_refl _) _).alloc (by simpa [World.setCell] using hbs) _⟩
      case measure => simp [intOf]; omega
    · obtain rfl : k = s := by omega
      have HP := hide (PlaySt.start (es := es) (s := k) (by have h := unhide H1; rwa [Nat.sub_self] at h) (unhide H2) (by rw [unhide H3]; rfl) hb)
      clear H1 H2 H3 hb hbs hN hlt hk HS HB
      go_wp2_with fail
      obtain ⟨wo, rfl⟩ : ∃ wo : World, wo = wr := ⟨_, rfl⟩
      go_loopw [8, 37] (fun v i wr => ∃ (m : Nat), m ≤ n ∧ i = .int .i64 m ∧ Hid (PlaySt w wr es k m m v) ∧ Hid (∀ j, j < m → okE k es j = 0)) (fun _ i _ => n - (intOf i).toNat)
      case atStart => exact ⟨0, Nat.zero_le _, rfl, HP, fun j hj => by omega⟩
      case round =>
        obtain ⟨m, hm1, rfl, HP1, HK⟩ := hrel
        have hbl := (unhide HP1).bel.size
        by_cases hlt : m < n
        · obtain ⟨b, o, x, rfl, hbx, hx, hcx⟩ := at_row (size := 3) (fun x => (rfl : (Ev.cells x).length = 3)) (by omega) ((unhide HR).below (unhide HP1).bel) hlt (unhide HL)
          have e0 := hcx 0 _ rfl
          have e1 := hcx 1 _ rfl
          have e2 := hcx 2 _ rfl
          simp only [Nat.add_zero] at e0
          have HG := hide (show es.getD m default = x by rw [List.getD_eq_getElem?_getD, hx]; rfl)
          have HODD := hide (fun W (hW : Below w.heap.size w W) => odd_any (k : Int) (some ⟨b, o, none⟩) m c (es.take m) x _ W (by rw [List.length_take, unhide HL]; omega) (by omega) (((unhide HR).takeRows (fun x => (rfl : (Ev.cells x).length = 3)) (unhide HL) hm1).below hW) hW.size)
          obtain ⟨R, hRR⟩ : ∃ R, oddP k (es.take m) x = R := ⟨_, rfl⟩
          have HRR := hide hRR
          rw [hRR] at HODD
          obtain ⟨xk, xw, xo⟩ := x
          dsimp only at e0 e1 e2
          unfold Ev.val at HODD
          dsimp only at HODD
          have hlt1 : (m : Int) < (n : Int) := by omega
          have hlt2 : (m : Int) ≤ (n : Int) := by omega
          have hmc : m ≤ c := by omega
          have hlt3 : (0 : Int) ≤ (m : Int) := by omega
          clear hx hcx hRR
          obtain ⟨wx, hwx⟩ : ∃ wx, wx = wr.alloc (.cells #[.int .i64 xk, .int .i64 xw, .int .i64 xo] 41) := ⟨_, rfl⟩
          have hbx2 : Below wr.heap.size wr wx := by rw [hwx]; exact (Below.refl _ _).alloc (Nat.le_refl _) _
          have hkx : Blk wx wr.heap.size 41 #[.int .i64 xk, .int .i64 xw, .int .i64 xo] := by rw [hwx]; exact Blk.new wr 41 _
          have hsx : wx.heap.size = wr.heap.size + 1 := by rw [hwx]; simp
          have q0 : ∀ W, Below wx.heap.size wx W → W.cell? ⟨wr.heap.size, 0, none⟩ = some (.int .i64 xk) := fun W hW => (Blk.below hkx hW (by omega)).cell 0
          have q1 : ∀ W, Below wx.heap.size wx W → W.cell? ⟨wr.heap.size, 1, none⟩ = some (.int .i64 xw) := fun W hW => (Blk.below hkx hW (by omega)).cell 1
          have q2 : ∀ W, Below wx.heap.size wx W → W.cell? ⟨wr.heap.size, 2, none⟩ = some (.int .i64 xo) := fun W hW => (Blk.below hkx hW (by omega)).cell 2
          have a0 : ∀ n : Ext wx, n.W.cell? ⟨wr.heap.size, 0, none⟩ = some (.int .i64 xk) := fun n => n.cell (hkx.cell 0)
          have a1 : ∀ n : Ext wx, n.W.cell? ⟨wr.heap.size, 1, none⟩ = some (.int .i64 xw) := fun n => n.cell (hkx.cell 1)
          have a2 : ∀ n : Ext wx, n.W.cell? ⟨wr.heap.size, 2, none⟩ = some (.int .i64 xo) := fun n => n.cell (hkx.cell 2)
          have HWX := hide hwx
          have HBX := hide hbx2
          have HSX := hide hsx
          clear hwx hbx2 hkx hsx
          go_wp2_with fail
          rw [← unhide HWX]
          refine wp_region_calm (by kernel_rfl) (by kernel_rfl) ?_
          have HEX := hide (fun n : Ext wx => ((unhide HP1).bel.trans ((unhide HBX).mono hbl)).trans (n.h.mono (by have := (unhide HBX).size; omega)))
          repeat (go_big_quiet_step ((go_at_call 22; exact calm_call (unhide HODD _ (unhide HEX _)))))
          refine wpQuiet_nil ?_
          rintro _ ⟨nq, rfl⟩
          obtain ⟨W1, hW1⟩ : ∃ W1, W1 = nq.W := ⟨_, rfl⟩
          have hz1 : Below wx.heap.size wx W1 := by rw [hW1]; exact nq.h
          rw [← hW1]
          clear hW1 a0 a1 a2
          have hbz1 : Below w.heap.size w W1 := (unhide HEX) ⟨W1, hz1⟩
          by_cases hR : R = 0
          rotate_left
          · have hRb : (R != 0) = true := by simpa using hR
            have HF := hide (play_bad h1' h2' (by rw [unhide HL]; exact hn2) (k := m) (by rw [unhide HL]; exact hlt) (unhide HK) (r := R) (by unfold okE; rw [unhide HG]; exact unhide HRR) hR)
            have HBZ1 := hide hbz1
            clear hbz1 hz1
            go_wp2_with fail
            go_ret2
            rw [unhide HF]
            exact tabPost_nil _ _ _ (unhide HBZ1)
          subst hR
          obtain ⟨g1, g2, g3, g4, g5⟩ := oddP_zero (unhide HRR)
          dsimp only at g1 g2 g3 g4 g5
          obtain ⟨p, rfl⟩ := Int.eq_ofNat_of_zero_le g3
          have hp : p < k := by omega
          have HWH := hide (show whoF es m = (p : Int) by unfold whoF; rw [unhide HG])
          have HOK := hide (show okE k es m = 0 by unfold okE; rw [unhide HG]; exact unhide HRR)
          have HPW1 := (unhide HP1).below ((unhide HBX).trans (hz1.mono (unhide HBX).size))
          obtain ⟨gn, capn, cn, hgn, hrn⟩ := HPW1.now hp
          have HC1 := hide (intClone_any (some ⟨gn, 0, none⟩) k capn (nowF es k m p) W1.heap.size W1 (nowF_len _ _ _ _) (by omega) hrn (Nat.le_refl _))
          have hz1s := hz1.size
          have hwxs : wr.heap.size + 1 ≤ wx.heap.size := by have := unhide HSX; omega
          clear HPW1 hrn hgn g1 g2 HODD HEX hbz1
          by_cases h33 : xk = 3
          · subst h33
            obtain ⟨g6, g7, g8⟩ := g5 rfl
            obtain ⟨o', rfl⟩ := Int.eq_ofNat_of_zero_le g6
            have ho' : o' < m := by rw [List.length_take, unhide HL] at g7; omega
            have HSRC := hide (show srcF es m = some o' by unfold srcF; rw [unhide HG]; rfl)
            clear g5 g7 g8
            go_wp2_with fail
            refine (unhide HC1).mono ?_
            rintro _ W2 ⟨vc, rfl, hown, hb2⟩
            obtain ⟨gc0, capc0, TT0, rfl, hgc0, hgcl0, hnc0, hcm0, hT0, hrow0⟩ := own_irow hown (by omega)
            have hz2 : Below wx.heap.size wx W2 := hz1.trans (hb2.mono hz1s)
            have hb2s := hb2.size
            obtain ⟨bo, co, go, capo, hvo, hco, hbo, hro⟩ := ((unhide HP1).below ((unhide HBX).trans (hz2.mono (unhide HBX).size))).out ho'
            subst hvo
            have HC2 := hide (clockJoined_any (some ⟨gc0, 0, none⟩) k capc0 (nowF es k m p) (some ⟨go, 0, none⟩) capo (clkRow es k o') W2.heap.size W2 (nowF_len _ _ _ _) (by omega) hs8 (hrow0.reads (nowF_len _ _ _ _)) (clkRow_len _ _ _) hro (Nat.le_refl _))
            have ho1 : (o' : Int) < (m : Int) := by omega
            clear hown hrow0 hT0 hcm0 hnc0 hgcl0 hbo hro hb2
            go_wp2_with fail
            refine (unhide HC2).mono ?_
            rintro _ W3 ⟨vc, rfl, hown, hb3⟩
            obtain ⟨gc, capc, TT, rfl, hgc, hgcl, hnc2, hcm2, hT, hrow⟩ := own_irow hown (by omega)
            have hz3 : Below wx.heap.size wx W3 := hz2.trans (hb3.mono (by omega))
            have hb3s := hb3.size
            have HROW := hide hrow
            have HT := hide hT
            have hgc2 : wr.heap.size ≤ gc := by omega
            have hgcx : wx.heap.size ≤ gc := by omega
            clear hown hrow hT hb3
            have hzW : Below wx.heap.size wx W3 := hz3
            have hbW : Below wr.heap.size wr W3 := (unhide HBX).trans (hz3.mono (unhide HBX).size)
            obtain ⟨z, hz, hz00, hzm, hset, hlen⟩ := clk_step (es := es) (i := m) (unhide HWH) hp (.inl ⟨o', ho', unhide HSRC, rfl⟩)
            have cc := (unhide HROW).cell hz
            have fc := IRow.frozen (unhide HROW) p
            have hPW := (unhide HP1).below hbW
            obtain ⟨gm, capm, cm, hgm, hrm⟩ := hPW.now hp
            have fm := hPW.free p
            obtain ⟨hst, hrd⟩ := (unhide HP1).put hbW (unhide HWH) hp (unhide HROW) hgc2 hlen hset (unhide HT) hcm2
            have hwN := (unhide HP1).lt
            have hsW : Below wr.heap.size W3 (W3.setCell ⟨gc, p, none⟩ (.int .i64 (z + 1))) := (Below.refl _ _).setCell hgc2 _
            have cm2 : (W3.setCell ⟨gc, p, none⟩ (.int .i64 (z + 1))).cell? ⟨w.heap.size, p, none⟩ = some (.slice (some ⟨gm, 0, none⟩) k capm) := (hsW.cell (p := ⟨w.heap.size, p, none⟩) hwN).trans cm
            have fm2 : (W3.setCell ⟨gc, p, none⟩ (.int .i64 (z + 1))).frozen? ⟨w.heap.size, p, none⟩ = false := (hsW.frozen (p := ⟨w.heap.size, p, none⟩) hwN).trans fm
            have hzs : Below wx.heap.size wx (W3.setCell ⟨gc, p, none⟩ (.int .i64 (z + 1))) := hzW.setCell hgcx _
            have HST := hide hst
            have HRD := hide hrd
            have hzm2 : z ≤ 200 := by omega
            have hz00' : 0 ≤ z := hz00
            clear hst hrd hPW cm fm hrm hz hset hlen
            go_wp2_with fail
            have HC5 := hide (intClone_any (some ⟨gc, 0, none⟩) k capc (clkRow es k m) W3.heap.size ((W3.setCell ⟨gc, p, none⟩ (.int .i64 (z + 1))).setCell ⟨w.heap.size, p, none⟩ (.slice (some ⟨gc, 0, none⟩) k capc)) (clkRow_len _ _ _) (by omega) (unhide HRD) (by simp [World.setCell]))
            refine (unhide HC5).mono ?_
            rintro _ W5 ⟨v5, rfl, hown5, hb5⟩
            obtain ⟨r5, hr5z, hr5l, rfl, hr5⟩ := orw_of_own hown5 (by omega)
            have hs4 : ((W3.setCell ⟨gc, p, none⟩ (.int .i64 (z + 1))).setCell ⟨w.heap.size, p, none⟩ (.slice (some ⟨gc, 0, none⟩) k capc)).heap.size = W3.heap.size := by simp [World.setCell]
            have hP5 := (unhide HST).below hb5
            obtain ⟨xs, hownx, hpush⟩ := hP5.push
            have hs5 := hP5.bel.size
            have hlt5 := hP5.lt
            have hr5' : r5.ok W5 (w.heap.size + 1) := ⟨by have := hr5.1; omega, hr5.2⟩
            have HP5 := hide hP5
            have HPUSH := hide (fun w' v' => hpush r5 w' v' hr5' hr5z)
            have HOWN := hide hownx
            have HRL := hide hr5l
            have HB5 := hide hP5.bel
            clear hP5 hpush hownx hr5' hr5 hr5l hr5z hb5 hown5 HC5 HST HRD hzs hsW cm2 fm2
            have hmb : (m + 1) * 24 ≤ 140737488355328 := by omega
            go_wp2_with (first
              | (at_builtin; (refine wpList_append_new _ rfl (.tmp 79) (.tmp 82) _ rfl (w.heap.size + 1) 22 ir _ 1 24 Try.underlying31 hir hr0 hr1 hr2 rfl (by omega) (by omega) _ _ _ (unhide HOWN) rfl _ 1 _ rfl rfl rfl (by simp [Value.oneCell']) hmb (by omega) ?_); intro g cap w6 hg6 hown6 hbel6 hgr6 hat6))
            have HP6 := hide (unhide HPUSH w6 _ hgr6 (by rw [orw_val (unhide HRL)]; exact hown6) (hbel6 _ _ (by omega) (unhide HB5)))
            clear hown6 hbel6 hgr6 hat6
            go_roundw
            case rel => exact ⟨m + 1, by omega, by go_num, HP6, fun j hj => by
              rcases Nat.lt_or_ge j m with h | h
              · exact unhide HK j h
              · obtain rfl : j = m := by omega
                exact unhide HOK⟩
            case measure => simp [intOf]; omega
          · have HSRC := hide (show srcF es m = none by unfold srcF; rw [unhide HG]; exact if_neg h33)
            have h33b : (xk == 3) = false := by simpa using h33
            clear g5
            go_wp2_with fail
            refine (unhide HC1).mono ?_
            rintro _ W2 ⟨vc, rfl, hown, hb2⟩
            obtain ⟨gc, capc, TT, rfl, hgc, hgcl, hnc2, hcm2, hT, hrow⟩ := own_irow hown (by omega)
            have hz2 : Below wx.heap.size wx W2 := hz1.trans (hb2.mono hz1s)
            have hb2s := hb2.size
            have HROW := hide hrow
            have HT := hide hT
            have hgc2 : wr.heap.size ≤ gc := by omega
            have hgcx : wx.heap.size ≤ gc := by omega
            clear hown hrow hT hb2
            have hzW : Below wx.heap.size wx W2 := hz2
            have hbW : Below wr.heap.size wr W2 := (unhide HBX).trans (hz2.mono (unhide HBX).size)
            obtain ⟨z, hz, hz00, hzm, hset, hlen⟩ := clk_step (es := es) (i := m) (unhide HWH) hp (.inr ⟨unhide HSRC, rfl⟩)
            have cc := (unhide HROW).cell hz
            have fc := IRow.frozen (unhide HROW) p
            have hPW := (unhide HP1).below hbW
            obtain ⟨gm, capm, cm, hgm, hrm⟩ := hPW.now hp
            have fm := hPW.free p
            obtain ⟨hst, hrd⟩ := (unhide HP1).put hbW (unhide HWH) hp (unhide HROW) hgc2 hlen hset (unhide HT) hcm2
            have hwN := (unhide HP1).lt
            have hsW : Below wr.heap.size W2 (W2.setCell ⟨gc, p, none⟩ (.int .i64 (z + 1))) := (Below.refl _ _).setCell hgc2 _
            have cm2 : (W2.setCell ⟨gc, p, none⟩ (.int .i64 (z + 1))).cell? ⟨w.heap.size, p, none⟩ = some (.slice (some ⟨gm, 0, none⟩) k capm) := (hsW.cell (p := ⟨w.heap.size, p, none⟩) hwN).trans cm
            have fm2 : (W2.setCell ⟨gc, p, none⟩ (.int .i64 (z + 1))).frozen? ⟨w.heap.size, p, none⟩ = false := (hsW.frozen (p := ⟨w.heap.size, p, none⟩) hwN).trans fm
            have hzs : Below wx.heap.size wx (W2.setCell ⟨gc, p, none⟩ (.int .i64 (z + 1))) := hzW.setCell hgcx _
            have HST := hide hst
            have HRD := hide hrd
            have hzm2 : z ≤ 200 := by omega
            have hz00' : 0 ≤ z := hz00
            clear hst hrd hPW cm fm hrm hz hset hlen
            go_wp2_with fail
            have HC5 := hide (intClone_any (some ⟨gc, 0, none⟩) k capc (clkRow es k m) W2.heap.size ((W2.setCell ⟨gc, p, none⟩ (.int .i64 (z + 1))).setCell ⟨w.heap.size, p, none⟩ (.slice (some ⟨gc, 0, none⟩) k capc)) (clkRow_len _ _ _) (by omega) (unhide HRD) (by simp [World.setCell]))
            refine (unhide HC5).mono ?_
            rintro _ W5 ⟨v5, rfl, hown5, hb5⟩
            obtain ⟨r5, hr5z, hr5l, rfl, hr5⟩ := orw_of_own hown5 (by omega)
            have hs4 : ((W2.setCell ⟨gc, p, none⟩ (.int .i64 (z + 1))).setCell ⟨w.heap.size, p, none⟩ (.slice (some ⟨gc, 0, none⟩) k capc)).heap.size = W2.heap.size := by simp [World.setCell]
            have hP5 := (unhide HST).below hb5
            obtain ⟨xs, hownx, hpush⟩ := hP5.push
            have hs5 := hP5.bel.size
            have hlt5 := hP5.lt
            have hr5' : r5.ok W5 (w.heap.size + 1) := ⟨by have := hr5.1; omega, hr5.2⟩
            have HP5 := hide hP5
            have HPUSH := hide (fun w' v' => hpush r5 w' v' hr5' hr5z)
            have HOWN := hide hownx
            have HRL := hide hr5l
            have HB5 := hide hP5.bel
            clear hP5 hpush hownx hr5' hr5 hr5l hr5z hb5 hown5 HC5 HST HRD hzs hsW cm2 fm2
            have hmb : (m + 1) * 24 ≤ 140737488355328 := by omega
            go_wp2_with (first
              | (at_builtin; (refine wpList_append_new _ rfl (.tmp 79) (.tmp 82) _ rfl (w.heap.size + 1) 22 ir _ 1 24 Try.underlying31 hir hr0 hr1 hr2 rfl (by omega) (by omega) _ _ _ (unhide HOWN) rfl _ 1 _ rfl rfl rfl (by simp [Value.oneCell']) hmb (by omega) ?_); intro g cap w6 hg6 hown6 hbel6 hgr6 hat6))
            have HP6 := hide (unhide HPUSH w6 _ hgr6 (by rw [orw_val (unhide HRL)]; exact hown6) (hbel6 _ _ (by omega) (unhide HB5)))
            clear hown6 hbel6 hgr6 hat6
            go_roundw
            case rel => exact ⟨m + 1, by omega, by go_num, HP6, fun j hj => by
              rcases Nat.lt_or_ge j m with h | h
              · exact unhide HK j h
              · obtain rfl : j = m := by omega
                exact unhide HOK⟩
            case measure => simp [intOf]; omega
        · obtain rfl : m = n := by omega
          have HF := hide (play_good (sites := k) (es := es) hs1 hs8 (by rw [unhide HL]; exact hn2) (fun j hj => unhide HK j (by rw [← unhide HL]; exact hj)))
          obtain ⟨A2, c2, hv2, hdone⟩ := (unhide HP1).done
          subst hv2
          have HD := hide hdone
          clear hdone HK HP1
          go_wp2_with fail
          go_ret2
          rw [unhide HF, unhide HL]
          exact unhide HD
end Go.Proofs.Ytickpflebmecpaa
