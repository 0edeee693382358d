/- Contracts and plain facts, set together by program out of smaller texts. Conditions: none beyond what each theorem states. -/
import Derived.KernelRfl
import Derived.Test.YtbolcebmbpepdaaGreatDoorM40
import Derived.Test.YtbolcebmbpepdaaGreatDoorM27
import Derived.Test.YtbolcebmbpepdaaGreatDoorM31
import Derived.Test.YtbolcebmbpepdaaGreatDoorM28
import Derived.Test.YtbolcebmbpepdaaGreatDoorM36
import Derived.Test.YtbolcebmbpepdaaGreatDoorM23
import Derived.Test.YtbolcebmbpepdaaGreatDoorM29
import Derived.Test.YtbolcebmbpepdaaGreatDoorM20
namespace Go.Proofs.YtbolcebmbpepdaaGreatDoor
set_option linter.unusedVariables false
section
open Go.RowKit
structure PlAt (w : World) (W : World) (c : Cfg) (y : Lay) (S : WS) (K base : Nat) (ow : Nat → Tag) (v : Value) (outs : List Tol) : Prop where
 pw : PW W c y S K base ow
 bel : Below w.heap.size w W
 lo : w.heap.size ≤ base
 out : OutT W base v outs
 vn : ∀ k, v.ownBlock = some k → ow k = .no
 tn : ∀ t ∈ outs, TolNo t ow
section
variable {w W W' : World} {c : Cfg} {y : Lay} {S S' : WS} {K K' base : Nat} {ow ow' : Nat → Tag} {v : Value} {outs : List Tol}
theorem PlAt.calm (h : PlAt w W c y S K base ow v outs) (hb : Below W.heap.size W W') : PlAt w W' c y S K base ow v outs :=
 ⟨h.pw.calm hb, h.bel.trans (hb.mono h.bel.size), h.lo, h.out.below hb, h.vn, h.tn⟩
theorem PlAt.turn (h : PlAt w W c y S K base ow v outs) (hp : PW W' c y S' K' base ow') (hk : Kept W W' ow ow') : PlAt w W' c y S' K' base ow' v outs := by
 refine ⟨hp, h.bel.trans ((hk.below h.pw).mono h.lo), h.lo, ⟨hk.own h.out.1 h.vn, fun t ht => ?_⟩, fun k hk2 => (hk.old k (h.out.1.lt k hk2).2).trans (h.vn k hk2), fun t ht => (h.tn t ht).turn (h.out.2 t ht) hk⟩
 exact ⟨hk.own (h.out.2 t ht).so (h.tn t ht _ (.inl rfl)), hk.own (h.out.2 t ht).fo (h.tn t ht _ (.inr (.inl rfl))), hk.own (h.out.2 t ht).ro (h.tn t ht _ (.inr (.inr rfl)))⟩
theorem PlAt.push {g cap : Nat} {t : Tol} {B : Nat} (h : PlAt w W c y S K base ow v outs) (hg : W.grownBy W' v.ownBlock) (hown : W'.ownsRow base 57 11 (.slice (some ⟨g, 0, none⟩) (outs.length + 1) cap) (outs.length + 1) (outs.flatMap Tol.cells ++ t.cells)) (hat : some g = v.ownBlock ∨ W.heap.size ≤ g) (hto : TolOwn t W B) (hB : base ≤ B) (htn : TolNo t ow) :
    PlAt w W' c y S K base ow (.slice (some ⟨g, 0, none⟩) (outs.length + 1) cap) (outs ++ [t]) := by
 have ho : Only (fun k => v.ownBlock = some k) W W' := (Only.refl _ _).grown hg (fun g hg _ => hg)
 have hp := h.pw.far ho (fun k _ hk => h.vn k hk) (fun k hk hk2 => by have := (h.out.1.lt k hk2).1; omega)
 refine ⟨hp, h.bel.trans ((ho.to_below (fun x hx _ hd => by have := (h.out.1.lt x hd).1; omega) h.pw.bw).mono h.lo), h.lo, h.out.push (hto.mono hB) hg hown, fun k hk => ?_, fun x hx => ?_⟩
 ·have : k = g := by simpa [Value.ownBlock] using hk.symm
  subst this
  rcases hat with e | e
  ·exact h.vn k e.symm
  ·exact h.pw.fresh k e
 ·rcases List.mem_append.1 hx with hx | hx
  ·exact h.tn x hx
  ·rw [List.mem_singleton] at hx
   subst hx
   exact htn
end
theorem runW_take (c : Cfg) (S : WS) (l : List StpI) (k : Nat) (s : StpI) (h : l[k]? = some s) : runW c (l.take (k + 1)) S = ((runW c (l.take k) S).1 ++ [(stepW c (runW c (l.take k) S).2 s).1], (stepW c (runW c (l.take k) S).2 s).2) := by
 rw [take_snoc l k s h, runW_snoc]
theorem runW_ok {c : Cfg} (hf : configP c = true) : ∀ (l : List StpI) (S : WS) (K : Nat), S.ok c K → (runW c l S).2.ok c (K + l.length)
 | [], S, K, h => h
 | s :: l, S, K, h => by
  have := runW_ok hf l _ (K + 1) (step_ok h hf s)
  rw [List.length_cons, Nat.add_comm l.length 1, ← Nat.add_assoc]
  exact this
def stpWf (s : StpI) : Prop := (Lit.int .i64 s.id).wf = true
def PlayPost (w : World) (c : Cfg) (ss : List StpI) (e : Ending) (w' : World) : Prop :=
 (configP c = false ∧ e = .returned (.tuple #[.slice none 0 0, .pointer none, .int .i64 4]) ∧ Below w.heap.size w w') ∨
 (configP c = true ∧ 300 < ss.length ∧ e = .returned (.tuple #[.slice none 0 0, .pointer none, .int .i64 1]) ∧ Below w.heap.size w w') ∨
 (configP c = true ∧ ss.length ≤ 300 ∧ ∃ (v : Value) (outs : List Tol) (y : Lay) (K base : Nat) (ow : Nat → Tag), e = .returned (.tuple #[v, .pointer (some ⟨y.hb, 0, none⟩), .int .i64 0]) ∧ outs.map (·.d) = (runW c ss (WS.new c)).1 ∧ PlAt w w' c y (runW c ss (WS.new c)).2 K base ow v outs)
section
variable {w : World} {c : Cfg}
set_option maxRecDepth 100000 in
set_option maxHeartbeats 4000000 in
theorem play_any (A : Option Addr) (n cc : Nat) (ss : List StpI) (B : Nat) (hl : ss.length = n) (hm : n ≤ maxLen) (hr : Reads w B 8 A n (ss.flatMap StpI.cells)) (hwf : ∀ s ∈ ss, stpWf s) (hc : c.ok w B) (hB : B ≤ w.heap.size) (hT : OrdT w) (hg : 0 < w.heap.size) :
    Calls Tryz.prog 22 #[c.val, .slice A n cc] w (PlayPost w c ss) := by
 obtain ⟨cb, hcb⟩ : ∃ p, p = w.heap.size := ⟨_, rfl⟩
 obtain ⟨wx, hwx⟩ : ∃ wx, wx = w.alloc (.cells c.cells.toArray 24) := ⟨_, rfl⟩
 have hbx : Below w.heap.size w wx := by rw [hwx]; exact (Below.refl _ _).alloc (Nat.le_refl _) _
 have kc : Blk wx cb 24 c.cells.toArray := by rw [hwx, hcb]; exact Blk.new _ _ _
 have HMY := hide (fun W (hW : Below w.heap.size w W) => frameMay_any c B W (hc.below (hW.mono hB)) (Nat.le_trans hB hW.size))
 have HBG := hide (fun W (hW : Below w.heap.size w W) (hf : configP c = true) => begun_any ((hc.below (hW.mono hB)).more (Nat.le_trans hB hW.size)) hf)
 obtain ⟨it, hit, ht0, ht1, ht2⟩ := told_info
 have d0 : wx.cell? ⟨cb, 0, none⟩ = some (.int .i64 c.br) := kc.cell 0
 have d1 : wx.cell? ⟨cb, 1, none⟩ = some (.slice c.la.A c.la.n c.la.c) := kc.cell 1
 have d2 : wx.cell? ⟨cb, 2, none⟩ = some (.int .i64 c.tk) := kc.cell 2
 have d3 : wx.cell? ⟨cb, 3, none⟩ = some (.slice c.mi.A c.mi.n c.mi.c) := kc.cell 3
 have d4 : wx.cell? ⟨cb, 4, none⟩ = some (.int .i64 c.cap) := kc.cell 4
 have HBX := hide hbx
 have HKC := hide kc
 have HCB := hide hcb
 have HWX := hide hwx
 have HL := hide hl
 have HR := hide hr
 have HWF := hide hwf
 have HT := hide hT
 have HB := hide hB
 have HGG := hide hg
 unfold maxLen at hm
 unfold Cfg.val at HMY HBG ⊢
 clear hbx kc hcb hwx hl hr hwf hT hc hB hg
 go_enter Tryz.func22, Tryz.ntmps22
 go_upto_region 1 with fail
 rw [show (#[.int .i64 c.br, .slice c.la.A c.la.n c.la.c, .int .i64 c.tk, .slice c.mi.A c.mi.n c.mi.c, .int .i64 c.cap] : Array Value) = c.cells.toArray from rfl, ← unhide HWX, ← unhide HCB]
 cases hcf : configP c with
 | false =>
  have HCF := hide hcf
  have hmy := unhide HMY wx (unhide HBX)
  rw [hcf] at hmy
  clear hcf
  go_wp2_with fail
  refine hmy.mono ?_
  rintro _ w2 ⟨rfl, hb2⟩
  have HB2 := hide hb2
  clear hb2 hmy
  go_wp2_with fail
  go_ret3
  exact .inl ⟨unhide HCF, rfl, (unhide HBX).trans ((unhide HB2).mono (unhide HBX).size)⟩
 | true =>
  have HCF := hide hcf
  have hmy := unhide HMY wx (unhide HBX)
  rw [hcf] at hmy
  clear hcf
  go_wp2_with fail
  refine hmy.mono ?_
  rintro _ w2 ⟨rfl, hb2⟩
  have hx2 := (unhide HBX).trans (hb2.mono (unhide HBX).size)
  have HX2 := hide hx2
  have kc2 := (unhide HKC).below hb2 (unhide HKC).lt
  have e0 : w2.cell? ⟨cb, 0, none⟩ = some (.int .i64 c.br) := kc2.cell 0
  have e1 : w2.cell? ⟨cb, 1, none⟩ = some (.slice c.la.A c.la.n c.la.c) := kc2.cell 1
  have e2 : w2.cell? ⟨cb, 2, none⟩ = some (.int .i64 c.tk) := kc2.cell 2
  have e3 : w2.cell? ⟨cb, 3, none⟩ = some (.slice c.mi.A c.mi.n c.mi.c) := kc2.cell 3
  have e4 : w2.cell? ⟨cb, 4, none⟩ = some (.int .i64 c.cap) := kc2.cell 4
  clear hb2 hmy d0 d1 d2 d3 d4 hx2 kc2
  by_cases h300 : 300 < n
  ·have hgt : decide ((n : Int) > 300) = true := by simp; omega
   go_wp2_with fail
   go_ret3
   exact .inr (.inl ⟨unhide HCF, by rw [unhide HL]; exact h300, rfl, unhide HX2⟩)
  ·have hgt : decide ((n : Int) > 300) = false := by simp; omega
   have hn300 : n ≤ 300 := by omega
   have HBN := hide (unhide HBG w2 (unhide HX2) (unhide HCF))
   go_wp2_with fail
   refine (unhide HBN).mono ?_
   rintro _ w3 ⟨y, ow, rfl, hp3, hb3⟩
   have HP0 := hide (show PlAt w w3 c y (runW c (ss.take 0) (WS.new c)).2 0 w2.heap.size ow (.slice none 0 0) [] from ⟨hp3, (unhide HX2).trans (hb3.mono (unhide HX2).size), (unhide HX2).size, OutT.nil _ _, fun k hk => (by cases hk), fun t ht => (by cases ht)⟩)
   have HOG := hide (show 0 < w2.heap.size from Nat.lt_of_lt_of_le (unhide HGG) (unhide HX2).size)
   obtain ⟨base, hbase⟩ : ∃ base, base = w2.heap.size := ⟨_, rfl⟩
   rw [← hbase] at HP0 HOG
   clear hp3 hb3 e0 e1 e2 e3 e4 hbase HBN
   go_wp2_with fail
   go_loopw [8, 21] (fun v i wr => ∃ (k : Nat) (outs : List Tol) (K : Nat) (ow : Nat → Tag), k ≤ n ∧ K ≤ k ∧ i = .int .i64 k ∧ Hid (PlAt w wr c y (runW c (ss.take k) (WS.new c)).2 K base ow v outs) ∧ Hid (outs.map (·.d) = (runW c (ss.take k) (WS.new c)).1)) (fun _ i _ => n - (intOf i).toNat)
   case atStart => exact ⟨0, [], 0, ow, Nat.zero_le _, Nat.le_refl _, rfl, HP0, hide rfl⟩
   case round =>
    obtain ⟨k, outs, K, ow, hk, hKk, rfl, HA, HD⟩ := hrel
    by_cases hlt : k < n
    ·have hlt' : (k : Int) < (n : Int) := by omega
     obtain ⟨bt, ot, s, rfl, hbt, hs, hct⟩ := at_row StpI.cells_len (by omega) (((unhide HR).below ((unhide HA).bel.mono (unhide HB)))) hlt (unhide HL)
     have z0 : wr.cell? ⟨bt, ot + k * 8, none⟩ = some (.int .i64 s.kind) := hct 0 _ rfl
     have z1 : wr.cell? ⟨bt, ot + k * 8 + 1, none⟩ = some (.int .i64 s.who) := hct 1 _ rfl
     have z2 : wr.cell? ⟨bt, ot + k * 8 + 2, none⟩ = some (.int .i64 s.item) := hct 2 _ rfl
     have z3 : wr.cell? ⟨bt, ot + k * 8 + 3, none⟩ = some (.int .i64 s.count) := hct 3 _ rfl
     have z4 : wr.cell? ⟨bt, ot + k * 8 + 4, none⟩ = some (.int .i64 s.life) := hct 4 _ rfl
     have z5 : wr.cell? ⟨bt, ot + k * 8 + 5, none⟩ = some (.int .i64 s.id) := hct 5 _ rfl
     have z6 : wr.cell? ⟨bt, ot + k * 8 + 6, none⟩ = some (.int .i64 s.label) := hct 6 _ rfl
     have z7 : wr.cell? ⟨bt, ot + k * 8 + 7, none⟩ = some (.int .i64 s.key) := hct 7 _ rfl
     obtain ⟨w4, hw4⟩ : ∃ w4, w4 = wr.alloc (.cells #[.int .i64 s.kind, .int .i64 s.who, .int .i64 s.item, .int .i64 s.count, .int .i64 s.life, .int .i64 s.id, .int .i64 s.label, .int .i64 s.key] 48) := ⟨_, rfl⟩
     obtain ⟨sb, hsb⟩ : ∃ sb, sb = wr.heap.size := ⟨_, rfl⟩
     have hb4 : Below wr.heap.size wr w4 := by rw [hw4]; exact (Below.refl _ _).alloc (Nat.le_refl _) _
     have k4 : Blk w4 sb 48 #[.int .i64 s.kind, .int .i64 s.who, .int .i64 s.item, .int .i64 s.count, .int .i64 s.life, .int .i64 s.id, .int .i64 s.label, .int .i64 s.key] := by rw [hw4, hsb]; exact Blk.new _ _ _
     have h4 := (unhide HA).calm hb4
     have hSok := runW_ok (unhide HCF) (ss.take k) (WS.new c) 0 (new_okW (unhide HCF))
     have htl : 0 + (ss.take k).length ≤ k := by rw [List.length_take]; omega
     have hO4 : OrdT w4 := fun j hj => (h4.bel.cell (p := ⟨_, j, none⟩) (unhide HGG)).trans (unhide HT j hj)
     have HST := hide (step_any h4.pw (0 + (ss.take k).length) hSok (by omega) (by omega) hO4 (unhide HOG) s (unhide HWF s (List.mem_of_getElem? hs)))
     unfold StpI.val at HST
     have HRT := hide (runW_take c (WS.new c) ss k s hs)
     have H4 := hide h4
     have HW4 := hide hw4
     have HSB := hide hsb
     have x0 : w4.cell? ⟨sb, 0, none⟩ = some (.int .i64 s.kind) := k4.cell 0
     have x1 : w4.cell? ⟨sb, 1, none⟩ = some (.int .i64 s.who) := k4.cell 1
     have x2 : w4.cell? ⟨sb, 2, none⟩ = some (.int .i64 s.item) := k4.cell 2
     have x3 : w4.cell? ⟨sb, 3, none⟩ = some (.int .i64 s.count) := k4.cell 3
     have x4 : w4.cell? ⟨sb, 4, none⟩ = some (.int .i64 s.life) := k4.cell 4
     have x5 : w4.cell? ⟨sb, 5, none⟩ = some (.int .i64 s.id) := k4.cell 5
     have x6 : w4.cell? ⟨sb, 6, none⟩ = some (.int .i64 s.label) := k4.cell 6
     have x7 : w4.cell? ⟨sb, 7, none⟩ = some (.int .i64 s.key) := k4.cell 7
     clear hw4 hsb hb4 k4 h4 hSok htl hO4 hs hct hbt
     go_upto_region 10 with fail
     rw [← unhide HW4, ← unhide HSB]
     clear z0 z1 z2 z3 z4 z5 z6 z7
     go_wp2_with fail
     refine (unhide HST).mono ?_
     rintro _ w5 ⟨t, rfl, hd, hto, ow5, hp5, hk5, hn5⟩
     have h5 := (unhide H4).turn hp5 hk5
     have hszw : base ≤ w4.heap.size := (unhide H4).pw.bw
     have HTO := hide hto
     have HTN := hide hn5
     have HTD := hide hd
     have HBS := hide hszw
     obtain ⟨vA, vc, hv, _⟩ := own_slice h5.out.1
     subst hv
     obtain ⟨ol, hol⟩ : ∃ ol, ol = outs.length := ⟨_, rfl⟩
     have holk : ol ≤ 300 := by
      have e := congrArg List.length (unhide HD)
      rw [List.length_map, runW_len, List.length_take] at e
      omega
     have HOL := hide hol
     rw [← hol] at h5 ⊢
     have H5 := hide h5
     have hown5 := h5.out.1
     rw [← hol] at hown5
     have HOWN := hide hown5
     clear hown5
     have HMQ := hide (show (ol + 1) * 136 ≤ 140737488355328 by omega)
     have hsz5 : base ≤ w5.heap.size := h5.pw.bw
     unfold Tol.val
     clear hp5 hk5 hto hn5 hd h5 hszw hol x0 x1 x2 x3 x4 x5 x6 x7
     go_wp2_with (first
      | (at_builtin; (refine wpList_append_new w5 rfl (.tmp 25) (.tmp 29) _ rfl base 57 it _ 11 136 Tryz.underlying26 hit ht0 ht1 ht2 rfl (by omega) (by omega) _ ol _ (unhide HOWN) rfl _ 1 _ rfl rfl rfl (by simp [Value.oneCell']) (unhide HMQ) hsz5 ?_); intro g7 cap7 w7 hg7 hown7 hbel7 hgr7 hat7
         have h7 := (unhide H5).push (t := t) (g := g7) (cap := cap7) hgr7 (by rw [← unhide HOL]; exact hown7) (by
          rcases hat7 with e | e
          ·exact .inl e
          ·exact .inr (by omega)) (unhide HTO) (unhide HBS) (unhide HTN)
         rw [← unhide HOL] at h7
         have H7 := hide h7
         clear h7 hg7 hown7 hbel7 hgr7 hat7))
     go_roundw
     case rel => exact ⟨k + 1, outs ++ [t], K + 1, ow5, by omega, by omega, by go_num, by rw [unhide HRT]; exact H7, by rw [unhide HRT, List.map_append, unhide HD, List.map_singleton, unhide HTD]; exact hide rfl⟩
     case measure => simp [intOf]; omega
    ·obtain rfl : k = n := by omega
     have HF := hide (show ss.take k = ss from List.take_of_length_le (by rw [unhide HL]; exact Nat.le_refl _))
     go_wp2_with fail
     go_ret3
     rw [unhide HF] at HA HD
     exact .inr (.inr ⟨unhide HCF, by rw [unhide HL]; omega, _, outs, y, K, base, ow, rfl, unhide HD, unhide HA⟩)
end
end
section
open Go.RowKit
def playP (c : Cfg) (ss : List StpI) : List TolD × Int := if configP c = false then ([], 4) else if 300 < ss.length then ([], 1) else ((runW c ss (WS.new c)).1, 0)
def PlayedPost (w : World) (c : Cfg) (ss : List StpI) (e : Ending) (w' : World) : Prop :=
 ∃ (v : Value) (outs : List Tol), e = .returned (.tuple #[v, .int .i64 (playP c ss).2]) ∧ outs.map (·.d) = (playP c ss).1 ∧ OutT w' w.heap.size v outs ∧ Below w.heap.size w w'
theorem OutT.mono {w : World} {base base' : Nat} {v : Value} {l : List Tol} (h : OutT w base v l) (hb : base' ≤ base) : OutT w base' v l := ⟨own_mono h.1 hb, fun t ht => (h.2 t ht).mono hb⟩
section
variable {w : World} {c : Cfg}
set_option maxRecDepth 100000 in
set_option maxHeartbeats 4000000 in
theorem worldPlay_any (A : Option Addr) (n cc : Nat) (ss : List StpI) (B : Nat) (hl : ss.length = n) (hm : n ≤ maxLen) (hr : Reads w B 8 A n (ss.flatMap StpI.cells)) (hwf : ∀ s ∈ ss, stpWf s) (hc : c.ok w B) (hB : B ≤ w.heap.size) (hT : OrdT w) (hg : 0 < w.heap.size) :
    Calls Tryz.prog 7 #[c.val, .slice A n cc] w (PlayedPost w c ss) := by
 obtain ⟨cb, hcb⟩ : ∃ p, p = w.heap.size := ⟨_, rfl⟩
 obtain ⟨wx, hwx⟩ : ∃ wx, wx = w.alloc (.cells c.cells.toArray 24) := ⟨_, rfl⟩
 have hbx : Below w.heap.size w wx := by rw [hwx]; exact (Below.refl _ _).alloc (Nat.le_refl _) _
 have kc : Blk wx cb 24 c.cells.toArray := by rw [hwx, hcb]; exact Blk.new _ _ _
 have HPL := hide (play_any A n cc ss B hl hm (hr.below (hbx.mono hB)) hwf (hc.below (hbx.mono hB)) (Nat.le_trans hB hbx.size) (fun j hj => (hbx.cell (p := ⟨_, j, none⟩) hg).trans (hT j hj)) (Nat.lt_of_lt_of_le hg hbx.size))
 have d0 : wx.cell? ⟨cb, 0, none⟩ = some (.int .i64 c.br) := kc.cell 0
 have d1 : wx.cell? ⟨cb, 1, none⟩ = some (.slice c.la.A c.la.n c.la.c) := kc.cell 1
 have d2 : wx.cell? ⟨cb, 2, none⟩ = some (.int .i64 c.tk) := kc.cell 2
 have d3 : wx.cell? ⟨cb, 3, none⟩ = some (.slice c.mi.A c.mi.n c.mi.c) := kc.cell 3
 have d4 : wx.cell? ⟨cb, 4, none⟩ = some (.int .i64 c.cap) := kc.cell 4
 have HBX := hide hbx
 have HCB := hide hcb
 have HWX := hide hwx
 unfold Cfg.val at HPL ⊢
 clear hbx kc hcb hwx hl hr hwf hT hc hB hg hm
 go_enter Tryz.func7, Tryz.ntmps7
 go_upto_region 1 with fail
 rw [show (#[.int .i64 c.br, .slice c.la.A c.la.n c.la.c, .int .i64 c.tk, .slice c.mi.A c.mi.n c.mi.c, .int .i64 c.cap] : Array Value) = c.cells.toArray from rfl, ← unhide HWX, ← unhide HCB]
 go_wp2_with fail
 refine (unhide HPL).mono ?_
 rintro _ w2 hp
 rcases hp with ⟨hcf, rfl, hb⟩ | ⟨hcf, hn, rfl, hb⟩ | ⟨hcf, hn, v, outs, y, K, base, ow, rfl, hd, hp⟩
 ·have HF := hide (show playP c ss = ([], 4) from if_pos hcf)
  have HB := hide hb
  clear hcf hb
  go_wp2_with fail
  go_ret2
  exact ⟨_, [], by rw [unhide HF]; rfl, by rw [unhide HF]; rfl, OutT.nil _ _, (unhide HBX).trans ((unhide HB).mono (unhide HBX).size)⟩
 ·have HF := hide (show playP c ss = ([], 1) from (if_neg (by rw [hcf]; simp)).trans (if_pos hn))
  have HB := hide hb
  clear hcf hb hn
  go_wp2_with fail
  go_ret2
  exact ⟨_, [], by rw [unhide HF]; rfl, by rw [unhide HF]; rfl, OutT.nil _ _, (unhide HBX).trans ((unhide HB).mono (unhide HBX).size)⟩
 ·have HF := hide (show playP c ss = ((runW c ss (WS.new c)).1, 0) from (if_neg (by rw [hcf]; simp)).trans (if_neg (by omega)))
  have HP := hide hp
  have HD := hide hd
  clear hcf hn hp hd
  go_wp2_with fail
  go_ret2
  exact ⟨_, outs, by rw [unhide HF]; rfl, by rw [unhide HF]; exact unhide HD, (unhide HP).out.mono (Nat.le_trans (unhide HBX).size (unhide HP).lo), (unhide HBX).trans ((unhide HP).bel.mono (unhide HBX).size)⟩
end
end
section
open Go.RowKit
theorem tchB_iff {c : Cfg} {x l : Nat} (hn : c.n = 4) : tchB c x l = true ↔ tch c x l := by
 unfold tchB tch
 rw [List.any_eq_true]
 constructor
 ·rintro ⟨i, hi, h⟩
  rw [Bool.and_eq_true] at h
  exact ⟨i, by rw [hn]; exact List.mem_range.1 hi, h⟩
 ·rintro ⟨i, hi, h⟩
  exact ⟨i, List.mem_range.2 (by omega), by rw [Bool.and_eq_true]; exact h⟩
def smallD (d : TolD) : Prop := d.sent.length ≤ 80 ∧ d.frame.length ≤ 136 ∧ d.report.length ≤ 3
def LtsLen (S : WS) : Prop := ∀ p ∈ S.lts, p.data.length ≤ 136
section
variable {c : Cfg} {S : WS}
theorem come_same (p : PoD) : (comeW c S p).lts = S.lts := by
 unfold comeW
 split
 ·rfl
 split
 ·exact (gainsW_at p.to_.toNat (askedP c p.data).1 S (askedP c p.data).1.length).2.2.2.2.1
 ·rfl
theorem step_small (hcf : configP c = true) (h : LtsLen S) (s : StpI) : LtsLen (stepW c S s).2 ∧ smallD (stepW c S s).1 := by
 obtain ⟨⟨hn, hn1, hn8⟩, hln, _, ⟨hm1, hm3⟩, _⟩ := config_facts hcf
 have h0 : ∀ a b, smallD (told0 a b) := fun a b => ⟨by simp [told0], by simp [told0], by simp [told0]⟩
 unfold stepW
 split
 ·refine ⟨fun p hp => ?_, ?_, ?_, ?_⟩
  ·have hp2 : p ∈ S.lts ++ (sendsTo c S.aged c.n ++ grantsTo c S c.n) := hp
   rcases List.mem_append.1 hp2 with hp | hp
   ·exact h p hp
   rcases List.mem_append.1 hp with hp | hp
   ·unfold sendsTo at hp
    obtain ⟨i, _, hp⟩ := List.mem_flatMap.1 hp
    rcases List.mem_cons.1 hp with rfl | hp
    ·have := asksP_len c (S.aged.ask i) hm3
     show (asksP c (S.aged.ask i)).1.length ≤ 136
     omega
    ·unfold rumsTo at hp
     obtain ⟨j, _, rfl⟩ := List.mem_map.1 hp
     exact rumP_len c i j (S.aged.st i) hln
   ·unfold grantsTo at hp
    obtain ⟨i, _, rfl⟩ := List.mem_map.1 hp
    have := asksP_len c (givenTo c S c.m i) hm3
    show (asksP c (givenTo c S c.m i)).1.length ≤ 136
    omega
  ·show (envs S.lts.length (sendsTo c S.aged c.n ++ grantsTo c S c.n)).length ≤ 80
   rw [envs_len, List.length_append, grants_len]
   have := sends_len c S.aged hn8 c.n (Nat.le_refl _)
   omega
  ·exact Nat.zero_le _
  ·show (reportsTo c S c.m).length ≤ 3
   unfold reportsTo
   have := List.length_filterMap_le (fun j => if 0 ≤ reportOf c S j then some (reportOf c S j) else none) (List.range c.m)
   rw [List.length_range] at this
   omega
 split
 ·unfold deliverW
  split
  ·exact ⟨h, h0 _ _⟩
  split
  ·exact ⟨h, h0 _ _⟩
  rename_i p hp
  split
  ·exact ⟨h, h0 _ _⟩
  ·refine ⟨fun p' hp' => ?_, Nat.zero_le _, h p (List.mem_of_getElem? hp), Nat.zero_le _⟩
   rw [come_same] at hp'
   exact h p' hp'
 split
 ·split
  ·exact ⟨h, h0 _ _⟩
  ·exact ⟨h, h0 _ _⟩
 split
 ·exact ⟨h, h0 _ _⟩
 split
 ·exact ⟨h, h0 _ _⟩
 unfold clientW
 split
 ·unfold entryW
  split
  ·exact ⟨h, h0 _ _⟩
  split
  ·exact ⟨h, h0 _ _⟩
  split
  ·exact ⟨h, h0 _ _⟩
  split
  ·exact ⟨h, h0 _ _⟩
  ·exact ⟨h, Nat.zero_le _, Nat.zero_le _, Nat.zero_le _⟩
 split
 ·exact ⟨h, h0 _ _⟩
 split
 ·split
  ·exact ⟨h, h0 _ _⟩
  split
  ·exact ⟨h, h0 _ _⟩
  ·exact ⟨h, h0 _ _⟩
 ·exact ⟨h, Nat.zero_le _, Nat.zero_le _, Nat.zero_le _⟩
theorem run_small (hcf : configP c = true) : ∀ (l : List StpI) (S : WS), LtsLen S → ∀ d ∈ (runW c l S).1, smallD d
 | [], _, _, d, hd => by cases hd
 | s :: l, S, h, d, hd => by
  rw [runW] at hd
  have := step_small hcf h s
  rcases List.mem_cons.1 hd with rfl | hd
  ·exact this.2
  ·exact run_small hcf l _ this.1 d hd
theorem small_fits {t : Tol} {w : World} {B : Nat} (h : t.ok w B) (hs : smallD t.d) : t.fits := by
 have h1 := h.sl
 have h2 := h.fl
 have h3 := h.rl
 obtain ⟨a, b, d⟩ := hs
 unfold Tol.fits
 omega
end
def SeenPost (w : World) (c : Cfg) (ss : List StpI) (x : Nat) (e : Ending) (w' : World) : Prop :=
 ∃ (v u : Value) (vs us : List Tol), e = .returned (.tuple #[v, u, .bool true]) ∧ vs.map (·.d) = (runW c ss (WS.new c)).1.map (maskD c.n x) ∧ us.map (·.d) = (runW c ss (WS.new c)).1 ∧ OutT w' w.heap.size v vs ∧ OutT w' w.heap.size u us ∧ Below w.heap.size w w'
def SeenCut (wx : World) (c : Cfg) (ss : List StpI) (v : Value) (W : World) : Prop :=
 ∃ us : List Tol, us.map (·.d) = (runW c ss (WS.new c)).1 ∧ OutT W wx.heap.size v us ∧ Below wx.heap.size wx W
set_option maxRecDepth 100000 in
set_option maxHeartbeats 4000000 in
theorem seen_any (c : Cfg) (A : Option Addr) (n cc : Nat) (ss : List StpI) (x B : Nat) (w : World) (hl : ss.length = n) (hn : n ≤ 300) (hr : Reads w B 8 A n (ss.flatMap StpI.cells)) (hwf : ∀ s ∈ ss, stpWf s) (hc : c.ok w B) (hcf : configP c = true) (hB : B ≤ w.heap.size) (hT : OrdT w) (hg : 0 < w.heap.size)
    (hx : x < 16) (hxb : x < 2 ^ c.br.toNat) : Calls Tryz.prog 17 #[c.val, .slice A n cc, .int .i64 x] w (SeenPost w c ss x) := by
 obtain ⟨it, hit, ht0, ht1, ht2⟩ := step_info
 obtain ⟨q, hq⟩ : ∃ p, p = w.heap.size := ⟨_, rfl⟩
 obtain ⟨wx, hwx⟩ : ∃ wx, wx = w.alloc (.cells c.cells.toArray 24) := ⟨_, rfl⟩
 have hbx : Below w.heap.size w wx := by rw [hwx]; exact (Below.refl _ _).alloc (Nat.le_refl _) _
 have kc : Blk wx q 24 c.cells.toArray := by rw [hwx, hq]; exact Blk.new _ _ _
 have hcx := hc.below (hbx.mono hB)
 have hTx : OrdT wx := fun j hj => (hbx.cell (p := ⟨_, j, none⟩) hg).trans (hT j hj)
 have hgx : 0 < wx.heap.size := Nat.lt_of_lt_of_le hg hbx.size
 have hBx : B ≤ wx.heap.size := Nat.le_trans hB hbx.size
 have HPL := hide (fun (A : Option Addr) (cc : Nat) (W : World) (hW : Below wx.heap.size wx W) (hr : Reads W W.heap.size 8 A n (ss.flatMap StpI.cells)) =>
  show Calls Tryz.prog 7 #[c.val, .slice A n cc] W (fun e w' => ∃ (v : Value) (us : List Tol), e = .returned (.tuple #[v, .int .i64 0]) ∧ us.map (·.d) = (runW c ss (WS.new c)).1 ∧ OutT w' W.heap.size v us ∧ Below W.heap.size W w') from
  (worldPlay_any (w := W) (c := c) A n cc ss W.heap.size hl (by unfold maxLen; omega) hr hwf ((hcx.below (hW.mono hBx)).more (Nat.le_trans hBx hW.size)) (Nat.le_refl _) (fun j hj => (hW.cell (p := ⟨_, j, none⟩) hgx).trans (hTx j hj)) (Nat.lt_of_lt_of_le hgx hW.size)).mono (by
   rintro e w' ⟨v0, outs, rfl, hd, ho, hb⟩
   have hpp : playP c ss = ((runW c ss (WS.new c)).1, 0) := (if_neg (by rw [hcf]; simp)).trans (if_neg (by omega))
   rw [hpp] at hd ⊢
   exact ⟨v0, outs, rfl, hd, ho, hb⟩))
 have HVW := hide (fun (A : Option Addr) (cap : Nat) (us : List Tol) (W : World) (hW : Below wx.heap.size wx W) (hd : us.map (·.d) = (runW c ss (WS.new c)).1) (hcap : n ≤ cap ∧ cap ≤ maxLen) (hr : Reads W W.heap.size 11 A n (us.flatMap Tol.cells)) (hok : ∀ t ∈ us, t.ok W W.heap.size) =>
  show Calls Tryz.prog 33 #[c.val, .slice A n cap, .int .i64 x] W (fun e w' => ∃ (v : Value) (vs : List Tol), e = .returned (.tuple #[v, .int .i64 0]) ∧ vs.map (·.d) = (runW c ss (WS.new c)).1.map (maskD c.n x) ∧ OutT w' W.heap.size v vs ∧ Below W.heap.size W w') from
  (viewOf_any c A n cap us x W.heap.size W ((hcx.below (hW.mono hBx)).more (Nat.le_trans hBx hW.size)) (by omega) (by have := congrArg List.length hd; rw [List.length_map, runW_len, hl] at this; exact this) hcap.1 hcap.2 (by omega) hr
   (fun t ht => ⟨hok t ht, small_fits (hok t ht) (run_small hcf ss (WS.new c) (fun p hp => by cases hp) t.d (by rw [← hd]; exact List.mem_map_of_mem ht))⟩) (Nat.le_refl _)).mono (by
   rintro e w' ⟨v0, outs, rfl, ho, hd2, hb⟩
   have hpp : viewP c (us.map (·.d)) x = ((runW c ss (WS.new c)).1.map (maskD c.n x), 0) := by
    unfold viewP
    rw [if_neg (by rw [hcf]; simp), if_neg (by have : ((2 : Int) ^ c.br.toNat) = ((2 ^ c.br.toNat : Nat) : Int) := by simp
                                               rw [this]; omega), hd, Int.toNat_natCast]
    rfl
   rw [hpp] at hd2 ⊢
   exact ⟨v0, outs, rfl, hd2, ho, hb⟩))
 have HLN := hide (show (runW c ss (WS.new c)).1.length = n by rw [runW_len, hl])
 have h1c : ∀ u ∈ ss.flatMap StpI.cells, u.oneCell' = true := fun u hu => by
  obtain ⟨s, _, hs⟩ := List.mem_flatMap.1 hu
  unfold StpI.cells at hs
  simp at hs
  rcases hs with rfl | rfl | rfl | rfl | rfl | rfl | rfl | rfl <;> rfl
 have H1C := hide h1c
 have HRD := hide (hr.below (hbx.mono hB))
 have HBX := hide hbx
 have HBB := hide hBx
 have HKC := hide kc
 have e0 := fun m : Ext wx => m.cell (show wx.cell? ⟨q, 0, none⟩ = some (.int .i64 c.br) from kc.cell 0)
 have e1 := fun m : Ext wx => m.cell (show wx.cell? ⟨q, 1, none⟩ = some (.slice c.la.A c.la.n c.la.c) from kc.cell 1)
 have e2 := fun m : Ext wx => m.cell (show wx.cell? ⟨q, 2, none⟩ = some (.int .i64 c.tk) from kc.cell 2)
 have e3 := fun m : Ext wx => m.cell (show wx.cell? ⟨q, 3, none⟩ = some (.slice c.mi.A c.mi.n c.mi.c) from kc.cell 3)
 have e4 := fun m : Ext wx => m.cell (show wx.cell? ⟨q, 4, none⟩ = some (.int .i64 c.cap) from kc.cell 4)
 have HNIL := hide (fun W => World.ownsRow_nil W wx.heap.size 48 8)
 have HN63 := hide (show 0 + n ≤ maxLen by unfold maxLen; omega)
 have HNB := hide (show (0 + n) * 64 ≤ 140737488355328 by omega)
 have HWX := hide hwx
 have HQ := hide hq
 unfold Cfg.val at HPL HVW ⊢
 clear hbx kc hq hwx hl hr hwf hc hcf hT hg hB hBx hcx hTx hgx h1c hxb
 go_enter Tryz.func17, Tryz.ntmps17
 go_upto_region 1 with fail
 rw [show (#[.int .i64 c.br, .slice c.la.A c.la.n c.la.c, .int .i64 c.tk, .slice c.mi.A c.mi.n c.mi.c, .int .i64 c.cap] : Array Value) = c.cells.toArray from rfl, ← unhide HWX, ← unhide HQ]
 go_cut [9, 10] (fun s9 s10 W => s10 = .int .i64 0 ∧ Hid (SeenCut wx c ss s9 W))
 case first =>
  refine wp_region_calm_treeW [0, 1] [2, 3, 4, 5, 6, 7, 8] (.next 2 (treeA 3)) (by kernel_rfl) (by kernel_rfl) (by intro c a d v w h; cases d <;> exact h) ?_
  simp only [pickOps, List.map_cons, List.map_nil, List.getD_cons_zero, List.getD_cons_succ]
  repeat (go_big_quiet_step (fail))
  refine wpQuiet_nil ?_
  clear e0 e1 e2 e3 e4 HVW
  have hd0 : Below wx.heap.size wx wx.drew := (Below.refl _ wx).drew
  generalize wx.drew = w9 at hd0 ⊢
  refine wpT_step fun K0 hK0 => ?_
  simp only [pickOps, List.map_cons, List.map_nil, List.getD_cons_zero, List.getD_cons_succ]
  have hrd9 := hide ((unhide HRD).below (hd0.mono (unhide HBB)))
  have hs9 : wx.heap.size ≤ w9.heap.size := hd0.size
  go_wp2_with (first
   | (at_builtin; (refine wpList_append_any _ rfl (.const (.slice none 0 0)) (.tmp 15) _ rfl wx.heap.size 48 it _ 8 64 Tryz.underlying25 hit ht0 ht1 ht2 rfl (by omega) (.slice none 0 0) 0 _ rfl (unhide HNIL _) B A n cc (ss.flatMap StpI.cells) rfl (unhide hrd9) (unhide H1C) (unhide HN63) (unhide HNB) hs9 ?_); intro v10 w10 hown10 hgr10 hat10
      obtain ⟨A10, c10, hv10, _⟩ := own_slice hown10
      subst hv10
      rw [Nat.zero_add] at hown10
      have hb10 := below_of_none' hgr10
      clear hgr10 hat10))
  have hb11 := hd0.trans (hb10.mono hs9)
  refine hK0 _ w10 (fun _ => ⟨⟨_, hb11⟩, rfl⟩) ?_
  clear hK0 K0
  unfold treeA
  refine wpT_step fun K0 hK0 => ?_
  simp only [pickOps, List.map_cons, List.map_nil, List.getD_cons_zero, List.getD_cons_succ]
  have HC9 := hide ((unhide HPL) A10 c10 w10 hb11 (Reads.of_own hown10))
  clear HPL hown10 hrd9 HRD HNIL HN63 HNB H1C
  go_wp2_with fail
  refine (unhide HC9).mono ?_
  rintro _ w11 ⟨v11, us, rfl, hd, ho, hb⟩
  have hd11 := hb11.trans (hb.mono hb11.size)
  have HCUT := hide (show SeenCut wx c ss v11 w11 from ⟨us, hd, ho.mono hb11.size, hd11⟩)
  clear hd ho hb hb10 hb11 hs9 hd0 HC9
  go_wp2_with fail
  refine hK0 _ w11 (fun _ => ⟨⟨_, hd11⟩, rfl⟩) ?_
  clear hK0 K0
  repeat' (first
   | (refine wpT_fork ?_ ?_)
   | (refine wpT_done ?_; go_wp2_with (fail); go_meet; exact ⟨rfl, HCUT⟩)
   | (refine wpT_step fun K0 hK0 => ?_; simp only [pickOps, List.map_cons, List.map_nil, List.getD_cons_zero, List.getD_cons_succ]; go_wp2_with (fail); refine hK0 _ w11 (fun _ => ⟨⟨_, hd11⟩, rfl⟩) ?_; clear hK0 K0))
 case rest =>
  obtain ⟨rfl, hc⟩ := hcut
  obtain ⟨us, hd, ho, hb⟩ := unhide hc
  obtain ⟨A3, c3, rfl, hcc, hcm, hrd, hok⟩ := ho.at_
  have hlen : us.length = n := by have := congrArg List.length hd; rw [List.length_map, unhide HLN] at this; exact this
  rw [hlen] at hrd hcc ⊢
  have HV := hide ((unhide HVW) A3 c3 us wc hb hd ⟨hcc, hcm⟩ hrd hok)
  have kc := (unhide HKC).below hb (unhide HKC).lt
  have d0 : wc.cell? ⟨q, 0, none⟩ = some (.int .i64 c.br) := kc.cell 0
  have d1 : wc.cell? ⟨q, 1, none⟩ = some (.slice c.la.A c.la.n c.la.c) := kc.cell 1
  have d2 : wc.cell? ⟨q, 2, none⟩ = some (.int .i64 c.tk) := kc.cell 2
  have d3 : wc.cell? ⟨q, 3, none⟩ = some (.slice c.mi.A c.mi.n c.mi.c) := kc.cell 3
  have d4 : wc.cell? ⟨q, 4, none⟩ = some (.int .i64 c.cap) := kc.cell 4
  rw [hlen] at ho
  have HU := hide (And.intro hd (And.intro ho hb))
  clear hlen hd ho hb hcc hcm hrd hok kc e0 e1 e2 e3 e4 HPL HRD HNIL HN63 HNB H1C hc HVW
  go_wp2_with fail
  refine (unhide HV).mono ?_
  rintro _ w2 ⟨v2, vs, rfl, hd2, ho2, hb2⟩
  obtain ⟨A4, c4, rfl, _, _, _, _⟩ := ho2.at_
  have hlen2 : vs.length = n := by have := congrArg List.length hd2; rw [List.length_map, List.length_map, unhide HLN] at this; exact this
  rw [hlen2] at ho2 ⊢
  have HV2 := hide (And.intro hd2 (And.intro ho2 hb2))
  clear hd2 ho2 hb2 hlen2 d0 d1 d2 d3 d4 HV
  go_wp2_with fail
  go_ret3
  obtain ⟨hd, ho, hb⟩ := unhide HU
  obtain ⟨hd2, ho2, hb2⟩ := unhide HV2
  have hs := (unhide HBX).size
  exact ⟨_, _, vs, us, rfl, hd2, hd, ho2.mono (Nat.le_trans hs hb.size), (ho.below hb2).mono hs, (unhide HBX).trans ((hb.trans (hb2.mono hb.size)).mono hs)⟩
end
section
open Go.RowKit
def stpLose : StpI := ⟨11, 0, 0, 0, 0, 0, 0, 0⟩
def firstL (tk : Int) : Nat → List StpI → List StpI
 | _, [] => []
 | t, s :: l => if s.kind = 9 then (if tk < ((t + 1 : Nat) : Int) then stpLose else s) :: firstL tk (t + 1) l else s :: firstL tk t l
theorem firstL_len (tk : Int) : ∀ (l : List StpI) (t : Nat), (firstL tk t l).length = l.length
 | [], _ => rfl
 | s :: l, t => by
  unfold firstL
  split
  ·rw [List.length_cons, List.length_cons, firstL_len tk l]
  ·rw [List.length_cons, List.length_cons, firstL_len tk l]
theorem firstL_snoc (tk : Int) (s : StpI) : ∀ (l : List StpI) (t : Nat), firstL tk t (l ++ [s]) = firstL tk t l ++ [if s.kind = 9 ∧ tk < ((t + ticksN l + 1 : Nat) : Int) then stpLose else s]
 | [], t => by
  rw [List.nil_append, firstL, firstL, firstL, firstL, ticksN, Nat.add_zero, List.nil_append]
  by_cases h : s.kind = 9
  ·rw [if_pos h]
   by_cases h2 : tk < ((t + 1 : Nat) : Int)
   ·rw [if_pos h2, if_pos ⟨h, h2⟩]
   ·rw [if_neg h2, if_neg (fun e => h2 e.2)]
  ·rw [if_neg h, if_neg (fun e => h e.1)]
 | x :: l, t => by
  rw [List.cons_append, firstL, firstL, firstL_snoc tk s l, firstL_snoc tk s l, ticksN]
  by_cases h : x.kind = 9
  ·rw [if_pos h, if_pos h, if_pos h, List.cons_append, show t + 1 + ticksN l + 1 = t + (1 + ticksN l) + 1 by omega]
  ·rw [if_neg h, if_neg h, if_neg h, List.cons_append, Nat.zero_add]
theorem firstL_ticks (tk : Int) : ∀ (l : List StpI) (t : Nat), ((t + ticksN (firstL tk t l) : Nat) : Int) ≤ max (t : Int) tk
 | [], t => by simp [firstL, ticksN]; omega
 | s :: l, t => by
  unfold firstL
  by_cases h : s.kind = 9
  ·rw [if_pos h, ticksN]
   have ih := firstL_ticks tk l (t + 1)
   by_cases h2 : tk < ((t + 1 : Nat) : Int)
   ·rw [if_pos h2, if_neg (by decide)]
    omega
   ·rw [if_neg h2, if_pos h]
    omega
  ·rw [if_neg h, ticksN, if_neg h, Nat.zero_add]
   exact firstL_ticks tk l t
def firstTo (tk : Int) (l : List StpI) (k : Nat) : List StpI := firstL tk 0 (l.take k) ++ l.drop k
def ticksTo (l : List StpI) (k : Nat) : Nat := ticksN (l.take k)
theorem ticksN_append : ∀ a b : List StpI, ticksN (a ++ b) = ticksN a + ticksN b
 | [], b => by simp [ticksN]
 | s :: a, b => by rw [List.cons_append, ticksN, ticksN, ticksN_append a b]; omega
theorem firstTo_len (tk : Int) (l : List StpI) (k : Nat) (hk : k ≤ l.length) : (firstTo tk l k).length = l.length := by
 unfold firstTo
 rw [List.length_append, firstL_len, List.length_take, List.length_drop]
 omega
theorem firstTo_succ (tk : Int) (l : List StpI) (k : Nat) (s : StpI) (h : l[k]? = some s) : firstTo tk l (k + 1) = (firstTo tk l k).set k (if s.kind = 9 ∧ tk < ((ticksTo l k + 1 : Nat) : Int) then stpLose else s) ∧ (firstTo tk l k)[k]? = some s ∧ ticksTo l (k + 1) = ticksTo l k + (if s.kind = 9 then 1 else 0) := by
 have hk := (List.getElem?_eq_some_iff.1 h).1
 have hlen : (firstL tk 0 (l.take k)).length = k := by rw [firstL_len, List.length_take]; omega
 have hd : l.drop k = s :: l.drop (k + 1) := by
  rw [List.drop_eq_getElem_cons hk]
  congr 1
  exact (List.getElem?_eq_some_iff.1 h).2
 refine ⟨?_, ?_, ?_⟩
 ·unfold firstTo ticksTo
  rw [take_snoc l k s h, firstL_snoc, Nat.zero_add, hd, List.set_append_right _ _ (by omega), hlen, Nat.sub_self, List.set_cons_zero, List.append_assoc]
  rfl
 ·unfold firstTo
  rw [List.getElem?_append_right (by omega), hlen, Nat.sub_self, hd]
  rfl
 ·unfold ticksTo
  rw [take_snoc l k s h, ticksN_append]
  rfl
theorem firstL_mem (tk : Int) : ∀ (l : List StpI) (t : Nat), ∀ s ∈ firstL tk t l, s = stpLose ∨ s ∈ l
 | [], _, s, h => by cases h
 | x :: l, t, s, h => by
  unfold firstL at h
  split at h
  ·rcases List.mem_cons.1 h with h | h
   ·split at h
    ·exact .inl h
    ·exact .inr (by simp [h])
   ·rcases firstL_mem tk l _ s h with h | h
    ·exact .inl h
    ·exact .inr (by simp [h])
  ·rcases List.mem_cons.1 h with h | h
   ·exact .inr (by simp [h])
   ·rcases firstL_mem tk l _ s h with h | h
    ·exact .inl h
    ·exact .inr (by simp [h])
theorem All2.of_get {α β : Type} {P : α → β → Prop} : ∀ {l : List α} {m : List β}, l.length = m.length → (∀ (i : Nat) (a : α) (b : β), l[i]? = some a → m[i]? = some b → P a b) → All2 P l m
 | [], [], _, _ => .nil
 | [], _ :: _, h, _ => by cases h
 | _ :: _, [], h, _ => by cases h
 | a :: l, b :: m, h, hp => .cons (hp 0 a b rfl rfl) (All2.of_get (by simpa using h) fun i x y hx hy => hp (i + 1) x y (by simpa using hx) (by simpa using hy))
theorem changed_alike {c : Cfg} {x : Nat} {s d : StpI} (hn : c.n = 4) (hw : 0 ≤ s.who ∧ s.who < 4) (hp : privP c x s = true) : Alike c x s (changedP s d) := by
 unfold privP at hp
 simp only [Bool.and_eq_true, Bool.or_eq_true, Bool.not_eq_true', decide_eq_true_eq] at hp
 obtain ⟨hx, hk⟩ := hp
 have h6 := Int.emod_nonneg d.kind (show (6 : Int) ≠ 0 by decide)
 have h6' := Int.emod_lt_of_pos d.kind (show (0 : Int) < 6 by decide)
 have h2 := Int.emod_nonneg d.kind (show (2 : Int) ≠ 0 by decide)
 have h2' := Int.emod_lt_of_pos d.kind (show (0 : Int) < 2 by decide)
 by_cases h78 : s.kind = 7 ∨ s.kind = 8
 ·have ht : ¬ tch c x s.label.toNat := fun e => by
   rcases hk with hk | hk
   ·omega
   ·rw [(tchB_iff hn).2 e] at hk
    exact absurd hk.2 (by simp)
  unfold changedP
  rw [if_pos h78]
  exact .inr ⟨rfl, hw.1, by omega, hx, .inr ⟨h78, by dsimp only; omega, rfl, ht⟩⟩
 ·have hk' : 1 ≤ s.kind ∧ s.kind ≤ 6 := by
   rcases hk with hk | hk
   ·exact hk
   ·exact absurd hk.1 h78
  unfold changedP
  rw [if_neg h78]
  exact .inr ⟨rfl, hw.1, by omega, hx, .inl ⟨hk'.1, hk'.2, by dsimp only; omega, by dsimp only; omega⟩⟩
theorem other_alike {c : Cfg} {x : Nat} (hn : c.n = 4) (l ds : List StpI) (hw : ∀ s ∈ l, 0 ≤ s.who ∧ s.who < 4) : All2 (Alike c x) l (otherP c x l ds) := by
 unfold otherP
 refine All2.of_get (otherTo_len c x l ds _).symm fun i a b ha hb => ?_
 rw [otherTo_get] at hb
 split at hb
 ·rename_i hi
  injection hb with hb
  have e : l.getD i stpZero = a := by rw [List.getD_eq_getElem?_getD, ha]; rfl
  rw [e] at hb
  subst hb
  unfold otherAt
  split
  ·rename_i hp
   exact changed_alike hn (hw a (List.mem_of_getElem? ha)) hp
  ·exact .inl rfl
 ·rw [ha] at hb
  injection hb with hb
  exact .inl hb
theorem other_wf {c : Cfg} {x : Nat} (l ds : List StpI) (hl : ∀ s ∈ l, stpWf s) (hd : ∀ s ∈ ds, stpWf s) : ∀ s ∈ otherP c x l ds, stpWf s := fun s hs => by
 obtain ⟨i, hi⟩ := List.getElem?_of_mem hs
 unfold otherP at hi
 rw [otherTo_get] at hi
 split at hi
 ·rename_i h
  injection hi with hi
  have e1 : l.getD i stpZero ∈ l := by rw [List.getD_eq_getElem?_getD, List.getElem?_eq_getElem h.2]; exact List.getElem_mem _
  have e2 : ds.getD i stpZero ∈ ds := by rw [List.getD_eq_getElem?_getD, List.getElem?_eq_getElem (by omega)]; exact List.getElem_mem _
  subst hi
  unfold otherAt
  split
  ·unfold changedP
   split
   ·exact (show stpWf (l.getD i stpZero) from hl _ e1)
   ·exact (show stpWf (ds.getD i stpZero) from hd _ e2)
  ·exact hl _ e1
 ·exact hl s (List.mem_of_getElem? hi)
end
section
open Go.RowKit
def cSure (g : Nat) : Cfg := ⟨1, ⟨none, 0, 0, []⟩, 1, ⟨some ⟨g, 0, none⟩, 1, 1, [5]⟩, 3⟩
def sureSteps : List StpI := [⟨1, 0, 0, 2, 0, 0, 0, 0⟩, ⟨9, 0, 0, 0, 0, 0, 0, 0⟩, ⟨10, 0, 0, 0, 0, 0, 0, 0⟩, ⟨9, 0, 0, 0, 0, 0, 0, 0⟩, ⟨10, 0, 0, 0, 0, 3, 0, 0⟩, ⟨2, 0, 0, 1, 0, 0, 0, 0⟩]
theorem sure_run (g : Nat) : ((runW (cSure g) sureSteps (WS.new (cSure g))).1.map fun d => (d.code, d.who, d.stock.free, d.stock.used, d.sent.length, d.report)) = [(0, 0, 0, 0, 0, []), (0, 0, 0, 0, 2, [5]), (0, 1, 0, 0, 0, []), (0, 0, 0, 0, 2, [5]), (0, 0, 0, 0, 0, []), (0, 0, 1, 1, 0, [])] := by kernel_rfl
theorem sure_config (g : Nat) : configP (cSure g) = true := by kernel_rfl
set_option maxRecDepth 100000 in
set_option maxHeartbeats 4000000 in
theorem sure_any (w : World) (hT : OrdT w) (hg : 0 < w.heap.size) : Calls Tryz.prog 19 #[] w fun e w' => e = .returned (.bool true) ∧ Below w.heap.size w w' := by
 have HTG := hide (And.intro hT hg)
 clear hT hg
 go_enter Tryz.func19, Tryz.ntmps19
 go_upto_region 3 with fail
 obtain ⟨g, hgq⟩ : ∃ g, g = w.heap.size := ⟨_, rfl⟩
 obtain ⟨q, hq⟩ : ∃ q, q = w.heap.size + 1 := ⟨_, rfl⟩
 obtain ⟨r, hr⟩ : ∃ r, r = w.heap.size + 1 + 1 := ⟨_, rfl⟩
 obtain ⟨w1, hw1⟩ : ∃ w1, w1 = w.alloc (.cells #[.int .i64 5] 3) := ⟨_, rfl⟩
 obtain ⟨w2, hw2⟩ : ∃ w2, w2 = w1.alloc (.cells (cSure g).cells.toArray 24) := ⟨_, rfl⟩
 obtain ⟨w3, hw3⟩ : ∃ w3, w3 = w2.alloc (.cells (sureSteps.flatMap StpI.cells).toArray 48) := ⟨_, rfl⟩
 have hs1 : w1.heap.size = w.heap.size + 1 := by rw [hw1]; simp
 have hs2 : w2.heap.size = w.heap.size + 1 + 1 := by rw [hw2, World.size_alloc, hs1]
 have hb1 : Below w.heap.size w w1 := by rw [hw1]; exact (Below.refl _ _).alloc (Nat.le_refl _) _
 have hb2 : Below w.heap.size w w2 := by rw [hw2]; exact hb1.alloc hb1.size _
 have hb3 : Below w.heap.size w w3 := by rw [hw3]; exact hb2.alloc hb2.size _
 have k1 : IRow w3 g [5] [] := by
  have h : Blk w1 g 3 #[.int .i64 5] := by rw [hw1, hgq]; exact Blk.new _ _ _
  rw [hw3, hw2]
  exact (h.alloc _).alloc _
 have k2 : Blk w3 q 24 (cSure g).cells.toArray := by
  have h : Blk w2 q 24 (cSure g).cells.toArray := by rw [hw2, hq, ← hs1]; exact Blk.new _ _ _
  rw [hw3]
  exact h.alloc _
 have k3 : Blk w3 r 48 (sureSteps.flatMap StpI.cells).toArray := by rw [hw3, hr, ← hs2]; exact Blk.new _ _ _
 rw [show (w.alloc (.cells #[.int .i64 5] 3)) = w1 from hw1.symm]
 rw [← hr, ← hq, ← hgq]
 change Code.wp _ _ _ _ ((w1.alloc (.cells (cSure g).cells.toArray 24)).alloc (.cells (sureSteps.flatMap StpI.cells).toArray 48))
 rw [← hw2, ← hw3]
 obtain ⟨hT, hg⟩ := unhide HTG
 have hT3 : OrdT w3 := fun j hj => (hb3.cell (p := ⟨_, j, none⟩) hg).trans (hT j hj)
 have hg3 : 0 < w3.heap.size := Nat.lt_of_lt_of_le hg hb3.size
 have hrd : Reads w3 w3.heap.size 8 (some ⟨r, 0, none⟩) 6 (sureSteps.flatMap StpI.cells) := ⟨rfl, fun _ => ⟨_, rfl, k3.lt, fun j u hj => by
  have h1 := k3.cell j
  rw [List.getElem?_toArray, hj] at h1
  have e : (⟨r, 0, none⟩ : Addr).add j = ⟨r, j, none⟩ := by unfold Addr.add; split <;> simp_all
  rw [e]
  simpa using h1⟩⟩
 have hwf : ∀ s ∈ sureSteps, stpWf s := fun s hs => by
  have h : 0 ≤ s.id ∧ s.id ≤ 3 := by
   unfold sureSteps at hs
   simp only [List.mem_cons, List.not_mem_nil, or_false] at hs
   rcases hs with rfl | rfl | rfl | rfl | rfl | rfl <;> decide
  exact WalkArith.wf_i64 (by omega)
 have hok : (cSure g).ok w3 w3.heap.size := ⟨⟨rfl, Nat.le_refl _, Nat.zero_le _, Reads.none_⟩, ⟨rfl, Nat.le_refl _, by show (1 : Nat) ≤ maxLen; unfold maxLen; omega, k1.reads rfl⟩, fun z hz => by cases hz⟩
 have HPL := hide (worldPlay_any (w := w3) (c := cSure g) (some ⟨r, 0, none⟩) 6 6 sureSteps w3.heap.size rfl (by unfold maxLen; omega) hrd hwf hok (Nat.le_refl _) hT3 hg3)
 have e0 : w3.cell? ⟨q, 0, none⟩ = some (.int .i64 1) := k2.cell 0
 have e1 : w3.cell? ⟨q, 1, none⟩ = some (.slice none 0 0) := k2.cell 1
 have e2 : w3.cell? ⟨q, 2, none⟩ = some (.int .i64 1) := k2.cell 2
 have e3 : w3.cell? ⟨q, 3, none⟩ = some (.slice (some ⟨g, 0, none⟩) 1 1) := k2.cell 3
 have e4 : w3.cell? ⟨q, 4, none⟩ = some (.int .i64 3) := k2.cell 4
 have HB3 := hide hb3
 have HPV := hide (show (cSure g).val = .agg #[.int .i64 1, .slice none 0 0, .int .i64 1, .slice (some ⟨g, 0, none⟩) 1 1, .int .i64 3] from rfl)
 rw [unhide HPV] at HPL
 clear hT hg hT3 hg3 hrd hwf hok hb1 hb2 hb3 k1 k2 k3 hw1 hw2 hw3 hs1 hs2 hr hq hgq HPV HTG
 go_wp2_with fail
 refine (unhide HPL).mono ?_
 rintro _ w4 ⟨v4, outs, rfl, hd, ho, hb⟩
 have hpp : playP (cSure g) sureSteps = ((runW (cSure g) sureSteps (WS.new (cSure g))).1, 0) := (if_neg (by rw [sure_config]; simp)).trans (if_neg (by decide))
 rw [hpp] at hd ⊢
 have hrun := sure_run g
 rw [← hd, List.map_map] at hrun
 obtain ⟨A4, c4, rfl, hcc, hcm, hrd, hok⟩ := ho.at_
 have hlen : outs.length = 6 := by have := congrArg List.length hrun; simpa using this
 rw [hlen] at hrd hcc ⊢
 obtain ⟨bt, ot, t1, rfl, hbt, ht1, hc1⟩ := at_row Tol.cells_len (by omega) hrd (k := 1) (by omega) hlen
 obtain ⟨bt', ot', t4, hA4, hbt4, ht4, hc4⟩ := at_row Tol.cells_len (by omega) hrd (k := 4) (by omega) hlen
 injection hA4 with hA4
 injection hA4 with h1 h2
 subst h1 h2
 obtain ⟨bt', ot', t5, hA5, hbt5, ht5, hc5⟩ := at_row Tol.cells_len (by omega) hrd (k := 5) (by omega) hlen
 injection hA5 with hA5
 injection hA5 with h1 h2
 subst h1 h2
 have g1 : t1.d.sent.length = 2 ∧ t1.d.report = [5] := by
  have h := congrArg (fun l => l[1]?) hrun
  simp [List.getElem?_map, ht1] at h
  exact ⟨h.2.2.2.2.1, h.2.2.2.2.2⟩
 have g4 : t4.d.who = 0 := by
  have h := congrArg (fun l => l[4]?) hrun
  simp [List.getElem?_map, ht4] at h
  exact h.2.1
 have g5 : t5.d.code = 0 ∧ t5.d.stock.free = 1 ∧ t5.d.stock.used = 1 := by
  have h := congrArg (fun l => l[5]?) hrun
  simp [List.getElem?_map, ht5] at h
  exact ⟨h.1, h.2.2.1, h.2.2.2.1⟩
 have o1 := hok t1 (List.mem_of_getElem? ht1)
 have hsn : t1.sn = 2 := by have := o1.sl; omega
 have hrn : t1.rn = 1 := by have := o1.rl; rw [g1.2] at this; simpa using this.symm
 have z1 : w4.cell? ⟨bt, ot + 1 * 11 + 8, none⟩ = some (.slice t1.sA 2 t1.sc) := by have h := hc1 8 _ rfl; rw [hsn] at h; exact h
 have z2 : w4.cell? ⟨bt, ot + 1 * 11 + 10, none⟩ = some (.slice t1.rA 1 t1.rc) := by have h := hc1 10 _ rfl; rw [hrn] at h; exact h
 have z3 : w4.cell? ⟨bt, ot + 4 * 11 + 1, none⟩ = some (.int .i64 0) := by have h := hc4 1 _ rfl; rw [g4] at h; exact h
 have z4 : w4.cell? ⟨bt, ot + 5 * 11, none⟩ = some (.int .i64 0) := by have h := hc5 0 _ rfl; rw [g5.1] at h; exact h
 have z5 : w4.cell? ⟨bt, ot + 5 * 11 + 4, none⟩ = some (.int .i64 1) := by have h := hc5 4 _ rfl; rw [g5.2.1] at h; exact h
 have z6 : w4.cell? ⟨bt, ot + 5 * 11 + 6, none⟩ = some (.int .i64 1) := by have h := hc5 6 _ rfl; rw [g5.2.2] at h; exact h
 have HBT := hbt
 have HRR := hide (show Reads w4 w4.heap.size 1 t1.rA 1 (([5] : List Int).map (.int .i64)) by have h := o1.rr; rw [hrn, g1.2] at h; exact h)
 have HB4 := hide ((unhide HB3).trans (hb.mono (unhide HB3).size))
 clear hrun hd ho hcc hcm hrd hok hlen hbt ht1 hc1 hbt4 ht4 hc4 hbt5 ht5 hc5 g1 g4 g5 o1 hsn hrn hb hpp e0 e1 e2 e3 e4 HPL HB3
 obtain ⟨w5, hw5⟩ : ∃ w5, w5 = w4.alloc (.cells #[.int .i64 5] 3) := ⟨_, rfl⟩
 obtain ⟨p5, hp5⟩ : ∃ p5, p5 = w4.heap.size := ⟨_, rfl⟩
 have hb5 : Below w4.heap.size w4 w5 := by rw [hw5]; exact (Below.refl _ _).alloc (Nat.le_refl _) _
 have k5 : IRow w5 p5 [5] [] := by rw [hw5, hp5]; exact Blk.new _ _ _
 have HB5 := hide ((unhide HB4).trans (hb5.mono (unhide HB4).size))
 have HSI := hide (sameInts_keep t1.rA (some ⟨p5, 0, none⟩) 1 t1.rc 1 [5] w5.heap.size w5 rfl (by omega) (((unhide HRR).below hb5).more hb5.size) (k5.reads rfl))
 have q3 : w5.cell? ⟨bt, ot + 4 * 11 + 1, none⟩ = some (.int .i64 0) := (hb5.cell (p := ⟨bt, ot + 4 * 11 + 1, none⟩) HBT).trans z3
 have q4 : w5.cell? ⟨bt, ot + 5 * 11, none⟩ = some (.int .i64 0) := (hb5.cell (p := ⟨bt, ot + 5 * 11, none⟩) HBT).trans z4
 have q5 : w5.cell? ⟨bt, ot + 5 * 11 + 4, none⟩ = some (.int .i64 1) := (hb5.cell (p := ⟨bt, ot + 5 * 11 + 4, none⟩) HBT).trans z5
 have q6 : w5.cell? ⟨bt, ot + 5 * 11 + 6, none⟩ = some (.int .i64 1) := (hb5.cell (p := ⟨bt, ot + 5 * 11 + 6, none⟩) HBT).trans z6
 have HW5 := hide hw5
 have HP5 := hide hp5
 have HQ := hide (And.intro q3 (And.intro q4 (And.intro q5 q6)))
 clear hw5 hp5 hb5 k5 q3 q4 q5 q6 HBT HRR z3 z4 z5 z6 HB4
 go_wp2_with fail
 rw [← unhide HW5, ← unhide HP5]
 refine (unhide HSI).mono ?_
 rintro _ w6 ⟨rfl, nq, hw6⟩
 obtain ⟨q3, q4, q5, q6⟩ := unhide HQ
 have hb6 : Below w5.heap.size w5 w6 := by rw [← hw6]; exact below_drewN (Below.refl _ _) nq
 have HB6 := hide ((unhide HB5).trans (hb6.mono (unhide HB5).size))
 have r3 : w6.cell? ⟨bt, ot + 4 * 11 + 1, none⟩ = some (.int .i64 0) := by rw [← hw6]; exact q3
 have r4 : w6.cell? ⟨bt, ot + 5 * 11, none⟩ = some (.int .i64 0) := by rw [← hw6]; exact q4
 have r5 : w6.cell? ⟨bt, ot + 5 * 11 + 4, none⟩ = some (.int .i64 1) := by rw [← hw6]; exact q5
 have r6 : w6.cell? ⟨bt, ot + 5 * 11 + 6, none⟩ = some (.int .i64 1) := by rw [← hw6]; exact q6
 clear hw6 hb6 q3 q4 q5 q6 z1 z2
 go_wp2_with fail
 go_ret
 exact ⟨rfl, unhide HB6⟩
end
end Go.Proofs.YtbolcebmbpepdaaGreatDoor
