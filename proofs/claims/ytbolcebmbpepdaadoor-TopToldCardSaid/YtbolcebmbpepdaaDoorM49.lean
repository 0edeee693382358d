/- Contracts and plain facts, set together by program out of smaller texts. Conditions: none beyond what each theorem states. -/
import Derived.Test.YtbolcebmbpepdaaDoorM48
namespace Go.Proofs.YtbolcebmbpepdaaDoor
set_option linter.unusedVariables false
section
open Go.RowKit
/-- a play under way: the steps done, what they came to -/
structure PlAt (w : World) (W : World) (c : Cfg) (y : Lay) (S : WS) (K base : Nat) (ow : Nat → Tag) (v : Value) (outs : List Tol) : Prop where
  pw : PW W c y S K base ow
  bel : Below w.heap.size w W
  lo : w.heap.size ≤ base
  out : OutT W base v outs
  vn : ∀ k, v.ownBlock = some k → ow k = .no
  tn : ∀ t ∈ outs, TolNo t ow
section
variable {w W W' : World} {c : Cfg} {y : Lay} {S S' : WS} {K K' base : Nat} {ow ow' : Nat → Tag} {v : Value} {outs : List Tol}
theorem PlAt.calm (h : PlAt w W c y S K base ow v outs) (hb : Below W.heap.size W W') : PlAt w W' c y S K base ow v outs :=
  ⟨h.pw.calm hb, h.bel.trans (hb.mono h.bel.size), h.lo, h.out.below hb, h.vn, h.tn⟩
theorem PlAt.turn (h : PlAt w W c y S K base ow v outs) (hp : PW W' c y S' K' base ow') (hk : Kept W W' ow ow') : PlAt w W' c y S' K' base ow' v outs := by
  refine ⟨hp, h.bel.trans ((hk.below h.pw).mono h.lo), h.lo, ⟨hk.own h.out.1 h.vn, fun t ht => ?_⟩, fun k hk2 => (hk.old k (h.out.1.lt k hk2).2).trans (h.vn k hk2), fun t ht => (h.tn t ht).turn (h.out.2 t ht) hk⟩
  exact ⟨hk.own (h.out.2 t ht).so (h.tn t ht _ (.inl rfl)), hk.own (h.out.2 t ht).fo (h.tn t ht _ (.inr (.inl rfl))), hk.own (h.out.2 t ht).ro (h.tn t ht _ (.inr (.inr rfl)))⟩
theorem PlAt.push {g cap : Nat} {t : Tol} {B : Nat} (h : PlAt w W c y S K base ow v outs) (hg : W.grownBy W' v.ownBlock) (hown : W'.ownsRow base 42 11 (.slice (some ⟨g, 0, none⟩) (outs.length + 1) cap) (outs.length + 1) (outs.flatMap Tol.cells ++ t.cells)) (hat : some g = v.ownBlock ∨ W.heap.size ≤ g) (hto : TolOwn t W B) (hB : base ≤ B) (htn : TolNo t ow) :
    PlAt w W' c y S K base ow (.slice (some ⟨g, 0, none⟩) (outs.length + 1) cap) (outs ++ [t]) := by
  have ho : Only (fun k => v.ownBlock = some k) W W' := (Only.refl _ _).grown hg (fun g hg _ => hg)
  have hp := h.pw.far ho (fun k _ hk => h.vn k hk) (fun k hk hk2 => by have := (h.out.1.lt k hk2).1; omega)
  refine ⟨hp, h.bel.trans ((ho.to_below (fun x hx _ hd => by have := (h.out.1.lt x hd).1; omega) h.pw.bw).mono h.lo), h.lo, h.out.push (hto.mono hB) hg hown, fun k hk => ?_, fun x hx => ?_⟩
  · have : k = g := by simpa [Value.ownBlock] using hk.symm
    subst this
    rcases hat with e | e
    · exact h.vn k e.symm
    · exact h.pw.fresh k e
  · rcases List.mem_append.1 hx with hx | hx
    · exact h.tn x hx
    · rw [List.mem_singleton] at hx
      subst hx
      exact htn
end
theorem runW_take (c : Cfg) (S : WS) (l : List StpI) (k : Nat) (s : StpI) (h : l[k]? = some s) : runW c (l.take (k + 1)) S = ((runW c (l.take k) S).1 ++ [(stepW c (runW c (l.take k) S).2 s).1], (stepW c (runW c (l.take k) S).2 s).2) := by
  rw [take_snoc l k s h, runW_snoc]
theorem runW_ok {c : Cfg} (hf : configP c = true) : ∀ (l : List StpI) (S : WS) (K : Nat), S.ok c K → (runW c l S).2.ok c (K + l.length)
  | [], S, K, h => h
  | s :: l, S, K, h => by
    have := runW_ok hf l _ (K + 1) (step_ok h hf s)
    rw [List.length_cons, Nat.add_comm l.length 1, ← Nat.add_assoc]
    exact this
def stpWf (s : StpI) : Prop := (Lit.int .i64 s.id).wf = true
def PlayPost (w : World) (c : Cfg) (ss : List StpI) (e : Ending) (w' : World) : Prop :=
  (configP c = false ∧ e = .returned (.tuple #[.slice none 0 0, .pointer none, .int .i64 4]) ∧ Below w.heap.size w w') ∨
  (configP c = true ∧ 300 < ss.length ∧ e = .returned (.tuple #[.slice none 0 0, .pointer none, .int .i64 1]) ∧ Below w.heap.size w w') ∨
  (configP c = true ∧ ss.length ≤ 300 ∧ ∃ (v : Value) (outs : List Tol) (y : Lay) (K base : Nat) (ow : Nat → Tag), e = .returned (.tuple #[v, .pointer (some ⟨y.hb, 0, none⟩), .int .i64 0]) ∧ outs.map (·.d) = (runW c ss (WS.new c)).1 ∧ PlAt w w' c y (runW c ss (WS.new c)).2 K base ow v outs)
section
variable {w : World} {c : Cfg}
set_option maxRecDepth 100000 in
set_option maxHeartbeats 4000000 in
theorem play_any (A : Option Addr) (n cc : Nat) (ss : List StpI) (B : Nat) (hl : ss.length = n) (hm : n ≤ maxLen) (hr : Reads w B 8 A n (ss.flatMap StpI.cells)) (hwf : ∀ s ∈ ss, stpWf s) (hc : c.ok w B) (hB : B ≤ w.heap.size) (hT : OrdT w) (hg : 0 < w.heap.size) :
    Calls Tryd.prog 12 #[c.val, .slice A n cc] w (PlayPost w c ss) := by
  obtain ⟨cb, hcb⟩ : ∃ p, p = w.heap.size := ⟨_, rfl⟩
  obtain ⟨wx, hwx⟩ : ∃ wx, wx = w.alloc (.cells c.cells.toArray 25) := ⟨_, rfl⟩
  have hbx : Below w.heap.size w wx := by rw [hwx]; exact (Below.refl _ _).alloc (Nat.le_refl _) _
  have kc : Blk wx cb 25 c.cells.toArray := by rw [hwx, hcb]; exact Blk.new _ _ _
  have HMY := hide (fun W (hW : Below w.heap.size w W) => frameMay_any c B W (hc.below (hW.mono hB)) (Nat.le_trans hB hW.size))
  have HBG := hide (fun W (hW : Below w.heap.size w W) (hf : configP c = true) => begun_any ((hc.below (hW.mono hB)).more (Nat.le_trans hB hW.size)) hf)
  obtain ⟨it, hit, ht0, ht1, ht2⟩ := told_info
  have d0 : wx.cell? ⟨cb, 0, none⟩ = some (.int .i64 c.br) := kc.cell 0
  have d1 : wx.cell? ⟨cb, 1, none⟩ = some (.slice c.la.A c.la.n c.la.c) := kc.cell 1
  have d2 : wx.cell? ⟨cb, 2, none⟩ = some (.int .i64 c.tk) := kc.cell 2
  have d3 : wx.cell? ⟨cb, 3, none⟩ = some (.slice c.mi.A c.mi.n c.mi.c) := kc.cell 3
  have d4 : wx.cell? ⟨cb, 4, none⟩ = some (.int .i64 c.cap) := kc.cell 4
  have HBX := hide hbx
  have HKC := hide kc
  have HCB := hide hcb
  have HWX := hide hwx
  have HL := hide hl
  have HR := hide hr
  have HWF := hide hwf
  have HT := hide hT
  have HB := hide hB
  have HGG := hide hg
  unfold maxLen at hm
  unfold Cfg.val at HMY HBG ⊢
  clear hbx kc hcb hwx hl hr hwf hT hc hB hg
  go_enter Tryd.func12, Tryd.ntmps12
  go_upto_region 1 with fail
  rw [show (#[.int .i64 c.br, .slice c.la.A c.la.n c.la.c, .int .i64 c.tk, .slice c.mi.A c.mi.n c.mi.c, .int .i64 c.cap] : Array Value) = c.cells.toArray from rfl, ← unhide HWX, ← unhide HCB]
  cases hcf : configP c with
  | false =>
    have HCF := hide hcf
    have hmy := unhide HMY wx (unhide HBX)
    rw [hcf] at hmy
    clear hcf
    go_wp2_with fail
    refine hmy.mono ?_
    rintro _ w2 ⟨rfl, hb2⟩
    have HB2 := hide hb2
    clear hb2 hmy
    go_wp2_with fail
    go_ret3
    exact .inl ⟨unhide HCF, rfl, (unhide HBX).trans ((unhide HB2).mono (unhide HBX).size)⟩
  | true =>
    have HCF := hide hcf
    have hmy := unhide HMY wx (unhide HBX)
    rw [hcf] at hmy
    clear hcf
    go_wp2_with fail
    refine hmy.mono ?_
    rintro _ w2 ⟨rfl, hb2⟩
    have hx2 := (unhide HBX).trans (hb2.mono (unhide HBX).size)
    have HX2 := hide hx2
    have kc2 := (unhide HKC).below hb2 (unhide HKC).lt
    have e0 : w2.cell? ⟨cb, 0, none⟩ = some (.int .i64 c.br) := kc2.cell 0
    have e1 : w2.cell? ⟨cb, 1, none⟩ = some (.slice c.la.A c.la.n c.la.c) := kc2.cell 1
    have e2 : w2.cell? ⟨cb, 2, none⟩ = some (.int .i64 c.tk) := kc2.cell 2
    have e3 : w2.cell? ⟨cb, 3, none⟩ = some (.slice c.mi.A c.mi.n c.mi.c) := kc2.cell 3
    have e4 : w2.cell? ⟨cb, 4, none⟩ = some (.int .i64 c.cap) := kc2.cell 4
    clear hb2 hmy d0 d1 d2 d3 d4 hx2 kc2
    by_cases h300 : 300 < n
    · have hgt : decide ((n : Int) > 300) = true := by simp; omega
      go_wp2_with fail
      go_ret3
      exact .inr (.inl ⟨unhide HCF, by rw [unhide HL]; exact h300, rfl, unhide HX2⟩)
    · have hgt : decide ((n : Int) > 300) = false := by simp; omega
      have hn300 : n ≤ 300 := by omega
      have HBN := hide (unhide HBG w2 (unhide HX2) (unhide HCF))
      go_wp2_with fail
      refine (unhide HBN).mono ?_
      rintro _ w3 ⟨y, ow, rfl, hp3, hb3⟩
      have HP0 := hide (show PlAt w w3 c y (runW c (ss.take 0) (WS.new c)).2 0 w2.heap.size ow (.slice none 0 0) [] from ⟨hp3, (unhide HX2).trans (hb3.mono (unhide HX2).size), (unhide HX2).size, OutT.nil _ _, fun k hk => (by cases hk), fun t ht => (by cases ht)⟩)
      have HOG := hide (show 0 < w2.heap.size from Nat.lt_of_lt_of_le (unhide HGG) (unhide HX2).size)
      obtain ⟨base, hbase⟩ : ∃ base, base = w2.heap.size := ⟨_, rfl⟩
      rw [← hbase] at HP0 HOG
      clear hp3 hb3 e0 e1 e2 e3 e4 hbase HBN
      go_wp2_with fail
      go_loopw [8, 21] (fun v i wr => ∃ (k : Nat) (outs : List Tol) (K : Nat) (ow : Nat → Tag), k ≤ n ∧ K ≤ k ∧ i = .int .i64 k ∧ Hid (PlAt w wr c y (runW c (ss.take k) (WS.new c)).2 K base ow v outs) ∧ Hid (outs.map (·.d) = (runW c (ss.take k) (WS.new c)).1)) (fun _ i _ => n - (intOf i).toNat)
      case atStart => exact ⟨0, [], 0, ow, Nat.zero_le _, Nat.le_refl _, rfl, HP0, hide rfl⟩
      case round =>
        obtain ⟨k, outs, K, ow, hk, hKk, rfl, HA, HD⟩ := hrel
        by_cases hlt : k < n
        · have hlt' : (k : Int) < (n : Int) := by omega
          obtain ⟨bt, ot, s, rfl, hbt, hs, hct⟩ := at_row StpI.cells_len (by omega) (((unhide HR).below ((unhide HA).bel.mono (unhide HB)))) hlt (unhide HL)
          have z0 : wr.cell? ⟨bt, ot + k * 8, none⟩ = some (.int .i64 s.kind) := hct 0 _ rfl
          have z1 : wr.cell? ⟨bt, ot + k * 8 + 1, none⟩ = some (.int .i64 s.who) := hct 1 _ rfl
          have z2 : wr.cell? ⟨bt, ot + k * 8 + 2, none⟩ = some (.int .i64 s.item) := hct 2 _ rfl
          have z3 : wr.cell? ⟨bt, ot + k * 8 + 3, none⟩ = some (.int .i64 s.count) := hct 3 _ rfl
          have z4 : wr.cell? ⟨bt, ot + k * 8 + 4, none⟩ = some (.int .i64 s.life) := hct 4 _ rfl
          have z5 : wr.cell? ⟨bt, ot + k * 8 + 5, none⟩ = some (.int .i64 s.id) := hct 5 _ rfl
          have z6 : wr.cell? ⟨bt, ot + k * 8 + 6, none⟩ = some (.int .i64 s.label) := hct 6 _ rfl
          have z7 : wr.cell? ⟨bt, ot + k * 8 + 7, none⟩ = some (.int .i64 s.key) := hct 7 _ rfl
          obtain ⟨w4, hw4⟩ : ∃ w4, w4 = wr.alloc (.cells #[.int .i64 s.kind, .int .i64 s.who, .int .i64 s.item, .int .i64 s.count, .int .i64 s.life, .int .i64 s.id, .int .i64 s.label, .int .i64 s.key] 32) := ⟨_, rfl⟩
          obtain ⟨sb, hsb⟩ : ∃ sb, sb = wr.heap.size := ⟨_, rfl⟩
          have hb4 : Below wr.heap.size wr w4 := by rw [hw4]; exact (Below.refl _ _).alloc (Nat.le_refl _) _
          have k4 : Blk w4 sb 32 #[.int .i64 s.kind, .int .i64 s.who, .int .i64 s.item, .int .i64 s.count, .int .i64 s.life, .int .i64 s.id, .int .i64 s.label, .int .i64 s.key] := by rw [hw4, hsb]; exact Blk.new _ _ _
          have h4 := (unhide HA).calm hb4
          have hSok := runW_ok (unhide HCF) (ss.take k) (WS.new c) 0 (new_okW (unhide HCF))
          have htl : 0 + (ss.take k).length ≤ k := by rw [List.length_take]; omega
          have hO4 : OrdT w4 := fun j hj => (h4.bel.cell (p := ⟨_, j, none⟩) (unhide HGG)).trans (unhide HT j hj)
          have HST := hide (step_any h4.pw (0 + (ss.take k).length) hSok (by omega) (by omega) hO4 (unhide HOG) s (unhide HWF s (List.mem_of_getElem? hs)))
          unfold StpI.val at HST
          have HRT := hide (runW_take c (WS.new c) ss k s hs)
          have H4 := hide h4
          have HW4 := hide hw4
          have HSB := hide hsb
          have x0 : w4.cell? ⟨sb, 0, none⟩ = some (.int .i64 s.kind) := k4.cell 0
          have x1 : w4.cell? ⟨sb, 1, none⟩ = some (.int .i64 s.who) := k4.cell 1
          have x2 : w4.cell? ⟨sb, 2, none⟩ = some (.int .i64 s.item) := k4.cell 2
          have x3 : w4.cell? ⟨sb, 3, none⟩ = some (.int .i64 s.count) := k4.cell 3
          have x4 : w4.cell? ⟨sb, 4, none⟩ = some (.int .i64 s.life) := k4.cell 4
          have x5 : w4.cell? ⟨sb, 5, none⟩ = some (.int .i64 s.id) := k4.cell 5
          have x6 : w4.cell? ⟨sb, 6, none⟩ = some (.int .i64 s.label) := k4.cell 6
          have x7 : w4.cell? ⟨sb, 7, none⟩ = some (.int .i64 s.key) := k4.cell 7
          clear hw4 hsb hb4 k4 h4 hSok htl hO4 hs hct hbt
          go_upto_region 10 with fail
          rw [← unhide HW4, ← unhide HSB]
          clear z0 z1 z2 z3 z4 z5 z6 z7
          go_wp2_with fail
          refine (unhide HST).mono ?_
          rintro _ w5 ⟨t, rfl, hd, hto, ow5, hp5, hk5, hn5⟩
          have h5 := (unhide H4).turn hp5 hk5
          have hszw : base ≤ w4.heap.size := (unhide H4).pw.bw
          have HTO := hide hto
          have HTN := hide hn5
          have HTD := hide hd
          have HBS := hide hszw
          obtain ⟨vA, vc, hv, _⟩ := own_slice h5.out.1
          subst hv
          obtain ⟨ol, hol⟩ : ∃ ol, ol = outs.length := ⟨_, rfl⟩
          have holk : ol ≤ 300 := by
            have e := congrArg List.length (unhide HD)
            rw [List.length_map, runW_len, List.length_take] at e
            omega
          have HOL := hide hol
          rw [← hol] at h5 ⊢
          have H5 := hide h5
          have hown5 := h5.out.1
          rw [← hol] at hown5
          have HOWN := hide hown5
          clear hown5
          have HMQ := hide (show (ol + 1) * 136 ≤ 140737488355328 by omega)
          have hsz5 : base ≤ w5.heap.size := h5.pw.bw
          unfold Tol.val
          clear hp5 hk5 hto hn5 hd h5 hszw hol x0 x1 x2 x3 x4 x5 x6 x7
          go_wp2_with (first
            | (at_builtin; (refine wpList_append_new w5 rfl (.tmp 25) (.tmp 29) _ rfl base 42 it _ 11 136 Tryd.underlying33 hit ht0 ht1 ht2 rfl (by omega) (by omega) _ ol _ (unhide HOWN) rfl _ 1 _ rfl rfl rfl (by simp [Value.oneCell']) (unhide HMQ) hsz5 ?_); intro g7 cap7 w7 hg7 hown7 hbel7 hgr7 hat7
               have h7 := (unhide H5).push (t := t) (g := g7) (cap := cap7) hgr7 (by rw [← unhide HOL]; exact hown7) (by
                 rcases hat7 with e | e
                 · exact .inl e
                 · exact .inr (by omega)) (unhide HTO) (unhide HBS) (unhide HTN)
               rw [← unhide HOL] at h7
               have H7 := hide h7
               clear h7 hg7 hown7 hbel7 hgr7 hat7))
          go_roundw
          case rel => exact ⟨k + 1, outs ++ [t], K + 1, ow5, by omega, by omega, by go_num, by rw [unhide HRT]; exact H7, by rw [unhide HRT, List.map_append, unhide HD, List.map_singleton, unhide HTD]; exact hide rfl⟩
          case measure => simp [intOf]; omega
        · obtain rfl : k = n := by omega
          have HF := hide (show ss.take k = ss from List.take_of_length_le (by rw [unhide HL]; exact Nat.le_refl _))
          go_wp2_with fail
          go_ret3
          rw [unhide HF] at HA HD
          exact .inr (.inr ⟨unhide HCF, by rw [unhide HL]; omega, _, outs, y, K, base, ow, rfl, unhide HD, unhide HA⟩)
end
end
section
open Go.RowKit
def playP (c : Cfg) (ss : List StpI) : List TolD × Int := if configP c = false then ([], 4) else if 300 < ss.length then ([], 1) else ((runW c ss (WS.new c)).1, 0)
def PlayedPost (w : World) (c : Cfg) (ss : List StpI) (e : Ending) (w' : World) : Prop :=
  ∃ (v : Value) (outs : List Tol), e = .returned (.tuple #[v, .int .i64 (playP c ss).2]) ∧ outs.map (·.d) = (playP c ss).1 ∧ OutT w' w.heap.size v outs ∧ Below w.heap.size w w'
theorem OutT.mono {w : World} {base base' : Nat} {v : Value} {l : List Tol} (h : OutT w base v l) (hb : base' ≤ base) : OutT w base' v l := ⟨own_mono h.1 hb, fun t ht => (h.2 t ht).mono hb⟩
section
variable {w : World} {c : Cfg}
set_option maxRecDepth 100000 in
set_option maxHeartbeats 4000000 in
theorem worldPlay_any (A : Option Addr) (n cc : Nat) (ss : List StpI) (B : Nat) (hl : ss.length = n) (hm : n ≤ maxLen) (hr : Reads w B 8 A n (ss.flatMap StpI.cells)) (hwf : ∀ s ∈ ss, stpWf s) (hc : c.ok w B) (hB : B ≤ w.heap.size) (hT : OrdT w) (hg : 0 < w.heap.size) :
    Calls Tryd.prog 8 #[c.val, .slice A n cc] w (PlayedPost w c ss) := by
  obtain ⟨cb, hcb⟩ : ∃ p, p = w.heap.size := ⟨_, rfl⟩
  obtain ⟨wx, hwx⟩ : ∃ wx, wx = w.alloc (.cells c.cells.toArray 25) := ⟨_, rfl⟩
  have hbx : Below w.heap.size w wx := by rw [hwx]; exact (Below.refl _ _).alloc (Nat.le_refl _) _
  have kc : Blk wx cb 25 c.cells.toArray := by rw [hwx, hcb]; exact Blk.new _ _ _
  have HPL := hide (play_any A n cc ss B hl hm (hr.below (hbx.mono hB)) hwf (hc.below (hbx.mono hB)) (Nat.le_trans hB hbx.size) (fun j hj => (hbx.cell (p := ⟨_, j, none⟩) hg).trans (hT j hj)) (Nat.lt_of_lt_of_le hg hbx.size))
  have d0 : wx.cell? ⟨cb, 0, none⟩ = some (.int .i64 c.br) := kc.cell 0
  have d1 : wx.cell? ⟨cb, 1, none⟩ = some (.slice c.la.A c.la.n c.la.c) := kc.cell 1
  have d2 : wx.cell? ⟨cb, 2, none⟩ = some (.int .i64 c.tk) := kc.cell 2
  have d3 : wx.cell? ⟨cb, 3, none⟩ = some (.slice c.mi.A c.mi.n c.mi.c) := kc.cell 3
  have d4 : wx.cell? ⟨cb, 4, none⟩ = some (.int .i64 c.cap) := kc.cell 4
  have HBX := hide hbx
  have HCB := hide hcb
  have HWX := hide hwx
  unfold Cfg.val at HPL ⊢
  clear hbx kc hcb hwx hl hr hwf hT hc hB hg hm
  go_enter Tryd.func8, Tryd.ntmps8
  go_upto_region 1 with fail
  rw [show (#[.int .i64 c.br, .slice c.la.A c.la.n c.la.c, .int .i64 c.tk, .slice c.mi.A c.mi.n c.mi.c, .int .i64 c.cap] : Array Value) = c.cells.toArray from rfl, ← unhide HWX, ← unhide HCB]
  go_wp2_with fail
  refine (unhide HPL).mono ?_
  rintro _ w2 hp
  rcases hp with ⟨hcf, rfl, hb⟩ | ⟨hcf, hn, rfl, hb⟩ | ⟨hcf, hn, v, outs, y, K, base, ow, rfl, hd, hp⟩
  · have HF := hide (show playP c ss = ([], 4) from if_pos hcf)
    have HB := hide hb
    clear hcf hb
    go_wp2_with fail
    go_ret2
    exact ⟨_, [], by rw [unhide HF]; rfl, by rw [unhide HF]; rfl, OutT.nil _ _, (unhide HBX).trans ((unhide HB).mono (unhide HBX).size)⟩
  · have HF := hide (show playP c ss = ([], 1) from (if_neg (by rw [hcf]; simp)).trans (if_pos hn))
    have HB := hide hb
    clear hcf hb hn
    go_wp2_with fail
    go_ret2
    exact ⟨_, [], by rw [unhide HF]; rfl, by rw [unhide HF]; rfl, OutT.nil _ _, (unhide HBX).trans ((unhide HB).mono (unhide HBX).size)⟩
  · have HF := hide (show playP c ss = ((runW c ss (WS.new c)).1, 0) from (if_neg (by rw [hcf]; simp)).trans (if_neg (by omega)))
    have HP := hide hp
    have HD := hide hd
    clear hcf hn hp hd
    go_wp2_with fail
    go_ret2
    exact ⟨_, outs, by rw [unhide HF]; rfl, by rw [unhide HF]; exact unhide HD, (unhide HP).out.mono (Nat.le_trans (unhide HBX).size (unhide HP).lo), (unhide HBX).trans ((unhide HP).bel.mono (unhide HBX).size)⟩
end
end
end Go.Proofs.YtbolcebmbpepdaaDoor
