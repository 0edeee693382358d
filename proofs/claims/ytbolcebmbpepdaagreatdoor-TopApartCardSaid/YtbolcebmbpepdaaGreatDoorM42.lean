/- Contracts and plain facts, set together by program out of smaller texts. Conditions: none beyond what each theorem states. -/
import Derived.KernelRfl
import Derived.Test.YtbolcebmbpepdaaGreatDoorM41
import Derived.Test.YtbolcebmbpepdaaGreatDoorM28
import Derived.Test.YtbolcebmbpepdaaGreatDoorM32
import Derived.Test.YtbolcebmbpepdaaGreatDoorM29
import Derived.Test.YtbolcebmbpepdaaGreatDoorM37
import Derived.Test.YtbolcebmbpepdaaGreatDoorM22
import Derived.Test.YtbolcebmbpepdaaGreatDoorM30
import Derived.Test.YtbolcebmbpepdaaGreatDoorM15
namespace Go.Proofs.YtbolcebmbpepdaaGreatDoor
set_option linter.unusedVariables false
section
open Go.RowKit
structure PlAt (w : World) (W : World) (c : Cfg) (y : Lay) (S : WS) (K base : Nat) (ow : Nat → Tag) (v : Value) (outs : List Tol) : Prop where
 pw : PW W c y S K base ow
 bel : Below w.heap.size w W
 lo : w.heap.size ≤ base
 out : OutT W base v outs
 vn : ∀ k, v.ownBlock = some k → ow k = .no
 tn : ∀ t ∈ outs, TolNo t ow
section
variable {w W W' : World} {c : Cfg} {y : Lay} {S S' : WS} {K K' base : Nat} {ow ow' : Nat → Tag} {v : Value} {outs : List Tol}
theorem PlAt.calm (h : PlAt w W c y S K base ow v outs) (hb : Below W.heap.size W W') : PlAt w W' c y S K base ow v outs :=
 ⟨h.pw.calm hb, h.bel.trans (hb.mono h.bel.size), h.lo, h.out.below hb, h.vn, h.tn⟩
theorem PlAt.turn (h : PlAt w W c y S K base ow v outs) (hp : PW W' c y S' K' base ow') (hk : Kept W W' ow ow') : PlAt w W' c y S' K' base ow' v outs := by
 refine ⟨hp, h.bel.trans ((hk.below h.pw).mono h.lo), h.lo, ⟨hk.own h.out.1 h.vn, fun t ht => ?_⟩, fun k hk2 => (hk.old k (h.out.1.lt k hk2).2).trans (h.vn k hk2), fun t ht => (h.tn t ht).turn (h.out.2 t ht) hk⟩
 exact ⟨hk.own (h.out.2 t ht).so (h.tn t ht _ (.inl rfl)), hk.own (h.out.2 t ht).fo (h.tn t ht _ (.inr (.inl rfl))), hk.own (h.out.2 t ht).ro (h.tn t ht _ (.inr (.inr rfl)))⟩
theorem PlAt.push {g cap : Nat} {t : Tol} {B : Nat} (h : PlAt w W c y S K base ow v outs) (hg : W.grownBy W' v.ownBlock) (hown : W'.ownsRow base 57 11 (.slice (some ⟨g, 0, none⟩) (outs.length + 1) cap) (outs.length + 1) (outs.flatMap Tol.cells ++ t.cells)) (hat : some g = v.ownBlock ∨ W.heap.size ≤ g) (hto : TolOwn t W B) (hB : base ≤ B) (htn : TolNo t ow) :
    PlAt w W' c y S K base ow (.slice (some ⟨g, 0, none⟩) (outs.length + 1) cap) (outs ++ [t]) := by
 have ho : Only (fun k => v.ownBlock = some k) W W' := (Only.refl _ _).grown hg (fun g hg _ => hg)
 have hp := h.pw.far ho (fun k _ hk => h.vn k hk) (fun k hk hk2 => by have := (h.out.1.lt k hk2).1; omega)
 refine ⟨hp, h.bel.trans ((ho.to_below (fun x hx _ hd => by have := (h.out.1.lt x hd).1; omega) h.pw.bw).mono h.lo), h.lo, h.out.push (hto.mono hB) hg hown, fun k hk => ?_, fun x hx => ?_⟩
 ·have : k = g := by simpa [Value.ownBlock] using hk.symm
  subst this
  rcases hat with e | e
  ·exact h.vn k e.symm
  ·exact h.pw.fresh k e
 ·rcases List.mem_append.1 hx with hx | hx
  ·exact h.tn x hx
  ·rw [List.mem_singleton] at hx
   subst hx
   exact htn
end
theorem yCq (c : Cfg) (S : WS) (l : List StpI) (k : Nat) (s : StpI) (h : l[k]? = some s) : runW c (l.take (k + 1)) S = ((runW c (l.take k) S).1 ++ [(stepW c (runW c (l.take k) S).2 s).1], (stepW c (runW c (l.take k) S).2 s).2) := by
 rw [zBp l k s h, zSo]
theorem zQx {c : Cfg} (hf : zAh c = true) : ∀ (l : List StpI) (S : WS) (K : Nat), S.ok c K → (runW c l S).2.ok c (K + l.length)
 | [], S, K, h => h
 | s :: l, S, K, h => by
  have := zQx hf l _ (K + 1) (step_ok h hf s)
  rw [List.length_cons, Nat.add_comm l.length 1, ← Nat.add_assoc]
  exact this
def zFm (s : StpI) : Prop := (Lit.int .i64 s.id).wf = true
def PlayPost (w : World) (c : Cfg) (ss : List StpI) (e : Ending) (w' : World) : Prop :=
 (zAh c = false ∧ e = .returned (.tuple #[.slice none 0 0, .pointer none, .int .i64 4]) ∧ Below w.heap.size w w') ∨
 (zAh c = true ∧ 300 < ss.length ∧ e = .returned (.tuple #[.slice none 0 0, .pointer none, .int .i64 1]) ∧ Below w.heap.size w w') ∨
 (zAh c = true ∧ ss.length ≤ 300 ∧ ∃ (v : Value) (outs : List Tol) (y : Lay) (K base : Nat) (ow : Nat → Tag), e = .returned (.tuple #[v, .pointer (some ⟨y.hb, 0, none⟩), .int .i64 0]) ∧ outs.map (·.d) = (runW c ss (WS.new c)).1 ∧ PlAt w w' c y (runW c ss (WS.new c)).2 K base ow v outs)
section
variable {w : World} {c : Cfg}
set_option maxRecDepth 100000 in
set_option maxHeartbeats 4000000 in
theorem zUd (A : Option Addr) (n cc : Nat) (ss : List StpI) (B : Nat) (hl : ss.length = n) (hm : n ≤ maxLen) (hr : Reads w B 8 A n (ss.flatMap StpI.cells)) (hwf : ∀ s ∈ ss, zFm s) (hc : c.ok w B) (hB : B ≤ w.heap.size) (hT : OrdT w) (hg : 0 < w.heap.size) :
    Calls Tryz.prog 22 #[c.val, .slice A n cc] w (PlayPost w c ss) := by
 obtain ⟨cb, hcb⟩ : ∃ p, p = w.heap.size := ⟨_, rfl⟩
 obtain ⟨wx, hwx⟩ : ∃ wx, wx = w.alloc (.cells c.cells.toArray 24) := ⟨_, rfl⟩
 have hbx : Below w.heap.size w wx := by rw [hwx]; exact (Below.refl _ _).alloc (Nat.le_refl _) _
 have kc : Blk wx cb 24 c.cells.toArray := by rw [hwx, hcb]; exact Blk.new _ _ _
 have HMY := hide (fun W (hW : Below w.heap.size w W) => zEe c B W (hc.below (hW.mono hB)) (Nat.le_trans hB hW.size))
 have HBG := hide (fun W (hW : Below w.heap.size w W) (hf : zAh c = true) => yEd ((hc.below (hW.mono hB)).more (Nat.le_trans hB hW.size)) hf)
 obtain ⟨it, hit, ht0, ht1, ht2⟩ := zRu
 have d0 : wx.cell? ⟨cb, 0, none⟩ = some (.int .i64 c.br) := kc.cell 0
 have d1 : wx.cell? ⟨cb, 1, none⟩ = some (.slice c.la.A c.la.n c.la.c) := kc.cell 1
 have d2 : wx.cell? ⟨cb, 2, none⟩ = some (.int .i64 c.tk) := kc.cell 2
 have d3 : wx.cell? ⟨cb, 3, none⟩ = some (.slice c.mi.A c.mi.n c.mi.c) := kc.cell 3
 have d4 : wx.cell? ⟨cb, 4, none⟩ = some (.int .i64 c.cap) := kc.cell 4
 have HBX := hide hbx
 have HKC := hide kc
 have HCB := hide hcb
 have HWX := hide hwx
 have HL := hide hl
 have HR := hide hr
 have HWF := hide hwf
 have HT := hide hT
 have HB := hide hB
 have HGG := hide hg
 unfold maxLen at hm
 unfold Cfg.val at HMY HBG ⊢
 clear hbx kc hcb hwx hl hr hwf hT hc hB hg
 go_enter Tryz.func22, Tryz.ntmps22
 go_upto_region 1 with fail
 rw [show (#[.int .i64 c.br, .slice c.la.A c.la.n c.la.c, .int .i64 c.tk, .slice c.mi.A c.mi.n c.mi.c, .int .i64 c.cap] : Array Value) = c.cells.toArray from rfl, ← zAa HWX, ← zAa HCB]
 cases hcf : zAh c with
 | false =>
  have HCF := hide hcf
  have hmy := zAa HMY wx (zAa HBX)
  rw [hcf] at hmy
  clear hcf
  go_wp2_with fail
  refine hmy.mono ?_
  rintro _ w2 ⟨rfl, hb2⟩
  have HB2 := hide hb2
  clear hb2 hmy
  go_wp2_with fail
  go_ret3
  exact .inl ⟨zAa HCF, rfl, (zAa HBX).trans ((zAa HB2).mono (zAa HBX).size)⟩
 | true =>
  have HCF := hide hcf
  have hmy := zAa HMY wx (zAa HBX)
  rw [hcf] at hmy
  clear hcf
  go_wp2_with fail
  refine hmy.mono ?_
  rintro _ w2 ⟨rfl, hb2⟩
  have hx2 := (zAa HBX).trans (hb2.mono (zAa HBX).size)
  have HX2 := hide hx2
  have kc2 := (zAa HKC).below hb2 (zAa HKC).lt
  have e0 : w2.cell? ⟨cb, 0, none⟩ = some (.int .i64 c.br) := kc2.cell 0
  have e1 : w2.cell? ⟨cb, 1, none⟩ = some (.slice c.la.A c.la.n c.la.c) := kc2.cell 1
  have e2 : w2.cell? ⟨cb, 2, none⟩ = some (.int .i64 c.tk) := kc2.cell 2
  have e3 : w2.cell? ⟨cb, 3, none⟩ = some (.slice c.mi.A c.mi.n c.mi.c) := kc2.cell 3
  have e4 : w2.cell? ⟨cb, 4, none⟩ = some (.int .i64 c.cap) := kc2.cell 4
  clear hb2 hmy d0 d1 d2 d3 d4 hx2 kc2
  by_cases h300 : 300 < n
  ·have hgt : decide ((n : Int) > 300) = true := by simp; omega
   go_wp2_with fail
   go_ret3
   exact .inr (.inl ⟨zAa HCF, by rw [zAa HL]; exact h300, rfl, zAa HX2⟩)
  ·have hgt : decide ((n : Int) > 300) = false := by simp; omega
   have hn300 : n ≤ 300 := by omega
   have HBN := hide (zAa HBG w2 (zAa HX2) (zAa HCF))
   go_wp2_with fail
   refine (zAa HBN).mono ?_
   rintro _ w3 ⟨y, ow, rfl, hp3, hb3⟩
   have HP0 := hide (show PlAt w w3 c y (runW c (ss.take 0) (WS.new c)).2 0 w2.heap.size ow (.slice none 0 0) [] from ⟨hp3, (zAa HX2).trans (hb3.mono (zAa HX2).size), (zAa HX2).size, OutT.nil _ _, fun k hk => (by cases hk), fun t ht => (by cases ht)⟩)
   have HOG := hide (show 0 < w2.heap.size from Nat.lt_of_lt_of_le (zAa HGG) (zAa HX2).size)
   obtain ⟨base, hbase⟩ : ∃ base, base = w2.heap.size := ⟨_, rfl⟩
   rw [← hbase] at HP0 HOG
   clear hp3 hb3 e0 e1 e2 e3 e4 hbase HBN
   go_wp2_with fail
   go_loopw [8, 21] (fun v i wr => ∃ (k : Nat) (outs : List Tol) (K : Nat) (ow : Nat → Tag), k ≤ n ∧ K ≤ k ∧ i = .int .i64 k ∧ Hid (PlAt w wr c y (runW c (ss.take k) (WS.new c)).2 K base ow v outs) ∧ Hid (outs.map (·.d) = (runW c (ss.take k) (WS.new c)).1)) (fun _ i _ => n - (intOf i).toNat)
   case atStart => exact ⟨0, [], 0, ow, Nat.zero_le _, Nat.le_refl _, rfl, HP0, hide rfl⟩
   case round =>
    obtain ⟨k, outs, K, ow, hk, hKk, rfl, HA, HD⟩ := hrel
    by_cases hlt : k < n
    ·have hlt' : (k : Int) < (n : Int) := by omega
     obtain ⟨bt, ot, s, rfl, hbt, hs, hct⟩ := zCf StpI.cells_len (by omega) (((zAa HR).below ((zAa HA).bel.mono (zAa HB)))) hlt (zAa HL)
     have z0 : wr.cell? ⟨bt, ot + k * 8, none⟩ = some (.int .i64 s.kind) := hct 0 _ rfl
     have z1 : wr.cell? ⟨bt, ot + k * 8 + 1, none⟩ = some (.int .i64 s.who) := hct 1 _ rfl
     have z2 : wr.cell? ⟨bt, ot + k * 8 + 2, none⟩ = some (.int .i64 s.item) := hct 2 _ rfl
     have z3 : wr.cell? ⟨bt, ot + k * 8 + 3, none⟩ = some (.int .i64 s.count) := hct 3 _ rfl
     have z4 : wr.cell? ⟨bt, ot + k * 8 + 4, none⟩ = some (.int .i64 s.life) := hct 4 _ rfl
     have z5 : wr.cell? ⟨bt, ot + k * 8 + 5, none⟩ = some (.int .i64 s.id) := hct 5 _ rfl
     have z6 : wr.cell? ⟨bt, ot + k * 8 + 6, none⟩ = some (.int .i64 s.label) := hct 6 _ rfl
     have z7 : wr.cell? ⟨bt, ot + k * 8 + 7, none⟩ = some (.int .i64 s.key) := hct 7 _ rfl
     obtain ⟨w4, hw4⟩ : ∃ w4, w4 = wr.alloc (.cells #[.int .i64 s.kind, .int .i64 s.who, .int .i64 s.item, .int .i64 s.count, .int .i64 s.life, .int .i64 s.id, .int .i64 s.label, .int .i64 s.key] 48) := ⟨_, rfl⟩
     obtain ⟨sb, hsb⟩ : ∃ sb, sb = wr.heap.size := ⟨_, rfl⟩
     have hb4 : Below wr.heap.size wr w4 := by rw [hw4]; exact (Below.refl _ _).alloc (Nat.le_refl _) _
     have k4 : Blk w4 sb 48 #[.int .i64 s.kind, .int .i64 s.who, .int .i64 s.item, .int .i64 s.count, .int .i64 s.life, .int .i64 s.id, .int .i64 s.label, .int .i64 s.key] := by rw [hw4, hsb]; exact Blk.new _ _ _
     have h4 := (zAa HA).calm hb4
     have hSok := zQx (zAa HCF) (ss.take k) (WS.new c) 0 (zNz (zAa HCF))
     have htl : 0 + (ss.take k).length ≤ k := by rw [List.length_take]; omega
     have hO4 : OrdT w4 := fun j hj => (h4.bel.cell (p := ⟨_, j, none⟩) (zAa HGG)).trans (zAa HT j hj)
     have HST := hide (step_any h4.pw (0 + (ss.take k).length) hSok (by omega) (by omega) hO4 (zAa HOG) s (zAa HWF s (List.mem_of_getElem? hs)))
     unfold StpI.val at HST
     have HRT := hide (yCq c (WS.new c) ss k s hs)
     have H4 := hide h4
     have HW4 := hide hw4
     have HSB := hide hsb
     have x0 : w4.cell? ⟨sb, 0, none⟩ = some (.int .i64 s.kind) := k4.cell 0
     have x1 : w4.cell? ⟨sb, 1, none⟩ = some (.int .i64 s.who) := k4.cell 1
     have x2 : w4.cell? ⟨sb, 2, none⟩ = some (.int .i64 s.item) := k4.cell 2
     have x3 : w4.cell? ⟨sb, 3, none⟩ = some (.int .i64 s.count) := k4.cell 3
     have x4 : w4.cell? ⟨sb, 4, none⟩ = some (.int .i64 s.life) := k4.cell 4
     have x5 : w4.cell? ⟨sb, 5, none⟩ = some (.int .i64 s.id) := k4.cell 5
     have x6 : w4.cell? ⟨sb, 6, none⟩ = some (.int .i64 s.label) := k4.cell 6
     have x7 : w4.cell? ⟨sb, 7, none⟩ = some (.int .i64 s.key) := k4.cell 7
     clear hw4 hsb hb4 k4 h4 hSok htl hO4 hs hct hbt
     go_upto_region 10 with fail
     rw [← zAa HW4, ← zAa HSB]
     clear z0 z1 z2 z3 z4 z5 z6 z7
     go_wp2_with fail
     refine (zAa HST).mono ?_
     rintro _ w5 ⟨t, rfl, hd, hto, ow5, hp5, hk5, hn5⟩
     have h5 := (zAa H4).turn hp5 hk5
     have hszw : base ≤ w4.heap.size := (zAa H4).pw.bw
     have HTO := hide hto
     have HTN := hide hn5
     have HTD := hide hd
     have HBS := hide hszw
     obtain ⟨vA, vc, hv, _⟩ := zAf h5.out.1
     subst hv
     obtain ⟨ol, hol⟩ : ∃ ol, ol = outs.length := ⟨_, rfl⟩
     have holk : ol ≤ 300 := by
      have e := congrArg List.length (zAa HD)
      rw [List.length_map, zIc, List.length_take] at e
      omega
     have HOL := hide hol
     rw [← hol] at h5 ⊢
     have H5 := hide h5
     have hown5 := h5.out.1
     rw [← hol] at hown5
     have HOWN := hide hown5
     clear hown5
     have HMQ := hide (show (ol + 1) * 136 ≤ 140737488355328 by omega)
     have hsz5 : base ≤ w5.heap.size := h5.pw.bw
     unfold Tol.val
     clear hp5 hk5 hto hn5 hd h5 hszw hol x0 x1 x2 x3 x4 x5 x6 x7
     go_wp2_with (first
      | (at_builtin; (refine zAl w5 rfl (.tmp 25) (.tmp 29) _ rfl base 57 it _ 11 136 Tryz.underlying26 hit ht0 ht1 ht2 rfl (by omega) (by omega) _ ol _ (zAa HOWN) rfl _ 1 _ rfl rfl rfl (by simp [Value.oneCell']) (zAa HMQ) hsz5 ?_); intro g7 cap7 w7 hg7 hown7 hbel7 hgr7 hat7
         have h7 := (zAa H5).push (t := t) (g := g7) (cap := cap7) hgr7 (by rw [← zAa HOL]; exact hown7) (by
          rcases hat7 with e | e
          ·exact .inl e
          ·exact .inr (by omega)) (zAa HTO) (zAa HBS) (zAa HTN)
         rw [← zAa HOL] at h7
         have H7 := hide h7
         clear h7 hg7 hown7 hbel7 hgr7 hat7))
     go_roundw
     case rel => exact ⟨k + 1, outs ++ [t], K + 1, ow5, by omega, by omega, by go_num, by rw [zAa HRT]; exact H7, by rw [zAa HRT, List.map_append, zAa HD, List.map_singleton, zAa HTD]; exact hide rfl⟩
     case measure => simp [intOf]; omega
    ·obtain rfl : k = n := by omega
     have HF := hide (show ss.take k = ss from List.take_of_length_le (by rw [zAa HL]; exact Nat.le_refl _))
     go_wp2_with fail
     go_ret3
     rw [zAa HF] at HA HD
     exact .inr (.inr ⟨zAa HCF, by rw [zAa HL]; omega, _, outs, y, K, base, ow, rfl, zAa HD, zAa HA⟩)
end
end
section
open Go.RowKit
def zMb (c : Cfg) (ss : List StpI) : List TolD × Int := if zAh c = false then ([], 4) else if 300 < ss.length then ([], 1) else ((runW c ss (WS.new c)).1, 0)
def yAi (w : World) (c : Cfg) (ss : List StpI) (e : Ending) (w' : World) : Prop :=
 ∃ (v : Value) (outs : List Tol), e = .returned (.tuple #[v, .int .i64 (zMb c ss).2]) ∧ outs.map (·.d) = (zMb c ss).1 ∧ OutT w' w.heap.size v outs ∧ Below w.heap.size w w'
theorem OutT.mono {w : World} {base base' : Nat} {v : Value} {l : List Tol} (h : OutT w base v l) (hb : base' ≤ base) : OutT w base' v l := ⟨zBr h.1 hb, fun t ht => (h.2 t ht).mono hb⟩
section
variable {w : World} {c : Cfg}
set_option maxRecDepth 100000 in
set_option maxHeartbeats 4000000 in
theorem zMm (A : Option Addr) (n cc : Nat) (ss : List StpI) (B : Nat) (hl : ss.length = n) (hm : n ≤ maxLen) (hr : Reads w B 8 A n (ss.flatMap StpI.cells)) (hwf : ∀ s ∈ ss, zFm s) (hc : c.ok w B) (hB : B ≤ w.heap.size) (hT : OrdT w) (hg : 0 < w.heap.size) :
    Calls Tryz.prog 7 #[c.val, .slice A n cc] w (yAi w c ss) := by
 obtain ⟨cb, hcb⟩ : ∃ p, p = w.heap.size := ⟨_, rfl⟩
 obtain ⟨wx, hwx⟩ : ∃ wx, wx = w.alloc (.cells c.cells.toArray 24) := ⟨_, rfl⟩
 have hbx : Below w.heap.size w wx := by rw [hwx]; exact (Below.refl _ _).alloc (Nat.le_refl _) _
 have kc : Blk wx cb 24 c.cells.toArray := by rw [hwx, hcb]; exact Blk.new _ _ _
 have HPL := hide (zUd A n cc ss B hl hm (hr.below (hbx.mono hB)) hwf (hc.below (hbx.mono hB)) (Nat.le_trans hB hbx.size) (fun j hj => (hbx.cell (p := ⟨_, j, none⟩) hg).trans (hT j hj)) (Nat.lt_of_lt_of_le hg hbx.size))
 have d0 : wx.cell? ⟨cb, 0, none⟩ = some (.int .i64 c.br) := kc.cell 0
 have d1 : wx.cell? ⟨cb, 1, none⟩ = some (.slice c.la.A c.la.n c.la.c) := kc.cell 1
 have d2 : wx.cell? ⟨cb, 2, none⟩ = some (.int .i64 c.tk) := kc.cell 2
 have d3 : wx.cell? ⟨cb, 3, none⟩ = some (.slice c.mi.A c.mi.n c.mi.c) := kc.cell 3
 have d4 : wx.cell? ⟨cb, 4, none⟩ = some (.int .i64 c.cap) := kc.cell 4
 have HBX := hide hbx
 have HCB := hide hcb
 have HWX := hide hwx
 unfold Cfg.val at HPL ⊢
 clear hbx kc hcb hwx hl hr hwf hT hc hB hg hm
 go_enter Tryz.func7, Tryz.ntmps7
 go_upto_region 1 with fail
 rw [show (#[.int .i64 c.br, .slice c.la.A c.la.n c.la.c, .int .i64 c.tk, .slice c.mi.A c.mi.n c.mi.c, .int .i64 c.cap] : Array Value) = c.cells.toArray from rfl, ← zAa HWX, ← zAa HCB]
 go_wp2_with fail
 refine (zAa HPL).mono ?_
 rintro _ w2 hp
 rcases hp with ⟨hcf, rfl, hb⟩ | ⟨hcf, hn, rfl, hb⟩ | ⟨hcf, hn, v, outs, y, K, base, ow, rfl, hd, hp⟩
 ·have HF := hide (show zMb c ss = ([], 4) from if_pos hcf)
  have HB := hide hb
  clear hcf hb
  go_wp2_with fail
  go_ret2
  exact ⟨_, [], by rw [zAa HF]; rfl, by rw [zAa HF]; rfl, OutT.nil _ _, (zAa HBX).trans ((zAa HB).mono (zAa HBX).size)⟩
 ·have HF := hide (show zMb c ss = ([], 1) from (if_neg (by rw [hcf]; simp)).trans (if_pos hn))
  have HB := hide hb
  clear hcf hb hn
  go_wp2_with fail
  go_ret2
  exact ⟨_, [], by rw [zAa HF]; rfl, by rw [zAa HF]; rfl, OutT.nil _ _, (zAa HBX).trans ((zAa HB).mono (zAa HBX).size)⟩
 ·have HF := hide (show zMb c ss = ((runW c ss (WS.new c)).1, 0) from (if_neg (by rw [hcf]; simp)).trans (if_neg (by omega)))
  have HP := hide hp
  have HD := hide hd
  clear hcf hn hp hd
  go_wp2_with fail
  go_ret2
  exact ⟨_, outs, by rw [zAa HF]; rfl, by rw [zAa HF]; exact zAa HD, (zAa HP).out.mono (Nat.le_trans (zAa HBX).size (zAa HP).lo), (zAa HBX).trans ((zAa HP).bel.mono (zAa HBX).size)⟩
end
end
section
open Go.RowKit
theorem tchB_iff {c : Cfg} {x l : Nat} (hn : c.n = 4) : tchB c x l = true ↔ tch c x l := by
 unfold tchB tch
 rw [List.any_eq_true]
 constructor
 ·rintro ⟨i, hi, h⟩
  rw [Bool.and_eq_true] at h
  exact ⟨i, by rw [hn]; exact List.mem_range.1 hi, h⟩
 ·rintro ⟨i, hi, h⟩
  exact ⟨i, List.mem_range.2 (by omega), by rw [Bool.and_eq_true]; exact h⟩
def zQh (d : TolD) : Prop := d.sent.length ≤ 80 ∧ d.frame.length ≤ 136 ∧ d.report.length ≤ 3
def zVh (S : WS) : Prop := ∀ p ∈ S.lts, p.data.length ≤ 136
section
variable {c : Cfg} {S : WS}
theorem yEc (p : PoD) : (zFd c S p).lts = S.lts := by
 unfold zFd
 split
 ·rfl
 split
 ·exact (zIw p.to_.toNat (zAp c p.data).1 S (zAp c p.data).1.length).2.2.2.2.1
 ·rfl
theorem zZt (hcf : zAh c = true) (h : zVh S) (s : StpI) : zVh (stepW c S s).2 ∧ zQh (stepW c S s).1 := by
 obtain ⟨⟨hn, hn1, hn8⟩, hln, _, ⟨hm1, hm3⟩, _⟩ := zAj hcf
 have h0 : ∀ a b, zQh (zAy a b) := fun a b => ⟨by simp [zAy], by simp [zAy], by simp [zAy]⟩
 unfold stepW
 split
 ·refine ⟨fun p hp => ?_, ?_, ?_, ?_⟩
  ·have hp2 : p ∈ S.lts ++ (zAx c S.aged c.n ++ zBs c S c.n) := hp
   rcases List.mem_append.1 hp2 with hp | hp
   ·exact h p hp
   rcases List.mem_append.1 hp with hp | hp
   ·unfold zAx at hp
    obtain ⟨i, _, hp⟩ := List.mem_flatMap.1 hp
    rcases List.mem_cons.1 hp with rfl | hp
    ·have := zKj c (S.aged.ask i) hm3
     show (zCa c (S.aged.ask i)).1.length ≤ 136
     omega
    ·unfold zDx at hp
     obtain ⟨j, _, rfl⟩ := List.mem_map.1 hp
     exact zUk c i j (S.aged.st i) hln
   ·unfold zBs at hp
    obtain ⟨i, _, rfl⟩ := List.mem_map.1 hp
    have := zKj c (zBq c S c.m i) hm3
    show (zCa c (zBq c S c.m i)).1.length ≤ 136
    omega
  ·show (envs S.lts.length (zAx c S.aged c.n ++ zBs c S c.n)).length ≤ 80
   rw [zPf, List.length_append, zLo]
   have := zIr c S.aged hn8 c.n (Nat.le_refl _)
   omega
  ·exact Nat.zero_le _
  ·show (zBh c S c.m).length ≤ 3
   unfold zBh
   have := List.length_filterMap_le (fun j => if 0 ≤ zDp c S j then some (zDp c S j) else none) (List.range c.m)
   rw [List.length_range] at this
   omega
 split
 ·unfold zCj
  split
  ·exact ⟨h, h0 _ _⟩
  split
  ·exact ⟨h, h0 _ _⟩
  rename_i p hp
  split
  ·exact ⟨h, h0 _ _⟩
  ·refine ⟨fun p' hp' => ?_, Nat.zero_le _, h p (List.mem_of_getElem? hp), Nat.zero_le _⟩
   rw [yEc] at hp'
   exact h p' hp'
 split
 ·split
  ·exact ⟨h, h0 _ _⟩
  ·exact ⟨h, h0 _ _⟩
 split
 ·exact ⟨h, h0 _ _⟩
 split
 ·exact ⟨h, h0 _ _⟩
 unfold zAz
 split
 ·unfold zBu
  split
  ·exact ⟨h, h0 _ _⟩
  split
  ·exact ⟨h, h0 _ _⟩
  split
  ·exact ⟨h, h0 _ _⟩
  split
  ·exact ⟨h, h0 _ _⟩
  ·exact ⟨h, Nat.zero_le _, Nat.zero_le _, Nat.zero_le _⟩
 split
 ·exact ⟨h, h0 _ _⟩
 split
 ·split
  ·exact ⟨h, h0 _ _⟩
  split
  ·exact ⟨h, h0 _ _⟩
  ·exact ⟨h, h0 _ _⟩
 ·exact ⟨h, Nat.zero_le _, Nat.zero_le _, Nat.zero_le _⟩
theorem zRx (hcf : zAh c = true) : ∀ (l : List StpI) (S : WS), zVh S → ∀ d ∈ (runW c l S).1, zQh d
 | [], _, _, d, hd => by cases hd
 | s :: l, S, h, d, hd => by
  rw [runW] at hd
  have := zZt hcf h s
  rcases List.mem_cons.1 hd with rfl | hd
  ·exact this.2
  ·exact zRx hcf l _ this.1 d hd
theorem yAz {t : Tol} {w : World} {B : Nat} (h : t.ok w B) (hs : zQh t.d) : t.fits := by
 have h1 := h.sl
 have h2 := h.fl
 have h3 := h.rl
 obtain ⟨a, b, d⟩ := hs
 unfold Tol.fits
 omega
end
def SeenPost (w : World) (c : Cfg) (ss : List StpI) (x : Nat) (e : Ending) (w' : World) : Prop :=
 ∃ (v u : Value) (vs us : List Tol), e = .returned (.tuple #[v, u, .bool true]) ∧ vs.map (·.d) = (runW c ss (WS.new c)).1.map (zEc c.n x) ∧ us.map (·.d) = (runW c ss (WS.new c)).1 ∧ OutT w' w.heap.size v vs ∧ OutT w' w.heap.size u us ∧ Below w.heap.size w w'
def zYs (wx : World) (c : Cfg) (ss : List StpI) (v : Value) (W : World) : Prop :=
 ∃ us : List Tol, us.map (·.d) = (runW c ss (WS.new c)).1 ∧ OutT W wx.heap.size v us ∧ Below wx.heap.size wx W
set_option maxRecDepth 100000 in
set_option maxHeartbeats 4000000 in
theorem seen_any (c : Cfg) (A : Option Addr) (n cc : Nat) (ss : List StpI) (x B : Nat) (w : World) (hl : ss.length = n) (hn : n ≤ 300) (hr : Reads w B 8 A n (ss.flatMap StpI.cells)) (hwf : ∀ s ∈ ss, zFm s) (hc : c.ok w B) (hcf : zAh c = true) (hB : B ≤ w.heap.size) (hT : OrdT w) (hg : 0 < w.heap.size)
    (hx : x < 16) (hxb : x < 2 ^ c.br.toNat) : Calls Tryz.prog 17 #[c.val, .slice A n cc, .int .i64 x] w (SeenPost w c ss x) := by
 obtain ⟨it, hit, ht0, ht1, ht2⟩ := zKb
 obtain ⟨q, hq⟩ : ∃ p, p = w.heap.size := ⟨_, rfl⟩
 obtain ⟨wx, hwx⟩ : ∃ wx, wx = w.alloc (.cells c.cells.toArray 24) := ⟨_, rfl⟩
 have hbx : Below w.heap.size w wx := by rw [hwx]; exact (Below.refl _ _).alloc (Nat.le_refl _) _
 have kc : Blk wx q 24 c.cells.toArray := by rw [hwx, hq]; exact Blk.new _ _ _
 have hcx := hc.below (hbx.mono hB)
 have hTx : OrdT wx := fun j hj => (hbx.cell (p := ⟨_, j, none⟩) hg).trans (hT j hj)
 have hgx : 0 < wx.heap.size := Nat.lt_of_lt_of_le hg hbx.size
 have hBx : B ≤ wx.heap.size := Nat.le_trans hB hbx.size
 have HPL := hide (fun (A : Option Addr) (cc : Nat) (W : World) (hW : Below wx.heap.size wx W) (hr : Reads W W.heap.size 8 A n (ss.flatMap StpI.cells)) =>
  show Calls Tryz.prog 7 #[c.val, .slice A n cc] W (fun e w' => ∃ (v : Value) (us : List Tol), e = .returned (.tuple #[v, .int .i64 0]) ∧ us.map (·.d) = (runW c ss (WS.new c)).1 ∧ OutT w' W.heap.size v us ∧ Below W.heap.size W w') from
  (zMm (w := W) (c := c) A n cc ss W.heap.size hl (by unfold maxLen; omega) hr hwf ((hcx.below (hW.mono hBx)).more (Nat.le_trans hBx hW.size)) (Nat.le_refl _) (fun j hj => (hW.cell (p := ⟨_, j, none⟩) hgx).trans (hTx j hj)) (Nat.lt_of_lt_of_le hgx hW.size)).mono (by
   rintro e w' ⟨v0, outs, rfl, hd, ho, hb⟩
   have hpp : zMb c ss = ((runW c ss (WS.new c)).1, 0) := (if_neg (by rw [hcf]; simp)).trans (if_neg (by omega))
   rw [hpp] at hd ⊢
   exact ⟨v0, outs, rfl, hd, ho, hb⟩))
 have HVW := hide (fun (A : Option Addr) (cap : Nat) (us : List Tol) (W : World) (hW : Below wx.heap.size wx W) (hd : us.map (·.d) = (runW c ss (WS.new c)).1) (hcap : n ≤ cap ∧ cap ≤ maxLen) (hr : Reads W W.heap.size 11 A n (us.flatMap Tol.cells)) (hok : ∀ t ∈ us, t.ok W W.heap.size) =>
  show Calls Tryz.prog 33 #[c.val, .slice A n cap, .int .i64 x] W (fun e w' => ∃ (v : Value) (vs : List Tol), e = .returned (.tuple #[v, .int .i64 0]) ∧ vs.map (·.d) = (runW c ss (WS.new c)).1.map (zEc c.n x) ∧ OutT w' W.heap.size v vs ∧ Below W.heap.size W w') from
  (yAn c A n cap us x W.heap.size W ((hcx.below (hW.mono hBx)).more (Nat.le_trans hBx hW.size)) (by omega) (by have := congrArg List.length hd; rw [List.length_map, zIc, hl] at this; exact this) hcap.1 hcap.2 (by omega) hr
   (fun t ht => ⟨hok t ht, yAz (hok t ht) (zRx hcf ss (WS.new c) (fun p hp => by cases hp) t.d (by rw [← hd]; exact List.mem_map_of_mem ht))⟩) (Nat.le_refl _)).mono (by
   rintro e w' ⟨v0, outs, rfl, ho, hd2, hb⟩
   have hpp : zHh c (us.map (·.d)) x = ((runW c ss (WS.new c)).1.map (zEc c.n x), 0) := by
    unfold zHh
    rw [if_neg (by rw [hcf]; simp), if_neg (by have : ((2 : Int) ^ c.br.toNat) = ((2 ^ c.br.toNat : Nat) : Int) := by simp
                                               rw [this]; omega), hd, Int.toNat_natCast]
    rfl
   rw [hpp] at hd2 ⊢
   exact ⟨v0, outs, rfl, hd2, ho, hb⟩))
 have HLN := hide (show (runW c ss (WS.new c)).1.length = n by rw [zIc, hl])
 have h1c : ∀ u ∈ ss.flatMap StpI.cells, u.oneCell' = true := fun u hu => by
  obtain ⟨s, _, hs⟩ := List.mem_flatMap.1 hu
  unfold StpI.cells at hs
  simp at hs
  rcases hs with rfl | rfl | rfl | rfl | rfl | rfl | rfl | rfl <;> rfl
 have H1C := hide h1c
 have HRD := hide (hr.below (hbx.mono hB))
 have HBX := hide hbx
 have HBB := hide hBx
 have HKC := hide kc
 have e0 := fun m : Ext wx => m.cell (show wx.cell? ⟨q, 0, none⟩ = some (.int .i64 c.br) from kc.cell 0)
 have e1 := fun m : Ext wx => m.cell (show wx.cell? ⟨q, 1, none⟩ = some (.slice c.la.A c.la.n c.la.c) from kc.cell 1)
 have e2 := fun m : Ext wx => m.cell (show wx.cell? ⟨q, 2, none⟩ = some (.int .i64 c.tk) from kc.cell 2)
 have e3 := fun m : Ext wx => m.cell (show wx.cell? ⟨q, 3, none⟩ = some (.slice c.mi.A c.mi.n c.mi.c) from kc.cell 3)
 have e4 := fun m : Ext wx => m.cell (show wx.cell? ⟨q, 4, none⟩ = some (.int .i64 c.cap) from kc.cell 4)
 have HNIL := hide (fun W => World.ownsRow_nil W wx.heap.size 48 8)
 have HN63 := hide (show 0 + n ≤ maxLen by unfold maxLen; omega)
 have HNB := hide (show (0 + n) * 64 ≤ 140737488355328 by omega)
 have HWX := hide hwx
 have HQ := hide hq
 unfold Cfg.val at HPL HVW ⊢
 clear hbx kc hq hwx hl hr hwf hc hcf hT hg hB hBx hcx hTx hgx h1c hxb
 go_enter Tryz.func17, Tryz.ntmps17
 go_upto_region 1 with fail
 rw [show (#[.int .i64 c.br, .slice c.la.A c.la.n c.la.c, .int .i64 c.tk, .slice c.mi.A c.mi.n c.mi.c, .int .i64 c.cap] : Array Value) = c.cells.toArray from rfl, ← zAa HWX, ← zAa HQ]
 go_cut [9, 10] (fun s9 s10 W => s10 = .int .i64 0 ∧ Hid (zYs wx c ss s9 W))
 case first =>
  refine zBt [0, 1] [2, 3, 4, 5, 6, 7, 8] (.next 2 (zGv 3)) (by kernel_rfl) (by kernel_rfl) (by intro c a d v w h; cases d <;> exact h) ?_
  simp only [zAb, List.map_cons, List.map_nil, List.getD_cons_zero, List.getD_cons_succ]
  repeat (go_big_quiet_step (fail))
  refine wpQuiet_nil ?_
  clear e0 e1 e2 e3 e4 HVW
  have hd0 : Below wx.heap.size wx wx.drew := (Below.refl _ wx).drew
  generalize wx.drew = w9 at hd0 ⊢
  refine zAc fun K0 hK0 => ?_
  simp only [zAb, List.map_cons, List.map_nil, List.getD_cons_zero, List.getD_cons_succ]
  have hrd9 := hide ((zAa HRD).below (hd0.mono (zAa HBB)))
  have hs9 : wx.heap.size ≤ w9.heap.size := hd0.size
  go_wp2_with (first
   | (at_builtin; (refine zAr _ rfl (.const (.slice none 0 0)) (.tmp 15) _ rfl wx.heap.size 48 it _ 8 64 Tryz.underlying25 hit ht0 ht1 ht2 rfl (by omega) (.slice none 0 0) 0 _ rfl (zAa HNIL _) B A n cc (ss.flatMap StpI.cells) rfl (zAa hrd9) (zAa H1C) (zAa HN63) (zAa HNB) hs9 ?_); intro v10 w10 hown10 hgr10 hat10
      obtain ⟨A10, c10, hv10, _⟩ := zAf hown10
      subst hv10
      rw [Nat.zero_add] at hown10
      have hb10 := zGn hgr10
      clear hgr10 hat10))
  have hb11 := hd0.trans (hb10.mono hs9)
  refine hK0 _ w10 (fun _ => ⟨⟨_, hb11⟩, rfl⟩) ?_
  clear hK0 K0
  unfold zGv
  refine zAc fun K0 hK0 => ?_
  simp only [zAb, List.map_cons, List.map_nil, List.getD_cons_zero, List.getD_cons_succ]
  have HC9 := hide ((zAa HPL) A10 c10 w10 hb11 (Reads.of_own hown10))
  clear HPL hown10 hrd9 HRD HNIL HN63 HNB H1C
  go_wp2_with fail
  refine (zAa HC9).mono ?_
  rintro _ w11 ⟨v11, us, rfl, hd, ho, hb⟩
  have hd11 := hb11.trans (hb.mono hb11.size)
  have HCUT := hide (show zYs wx c ss v11 w11 from ⟨us, hd, ho.mono hb11.size, hd11⟩)
  clear hd ho hb hb10 hb11 hs9 hd0 HC9
  go_wp2_with fail
  refine hK0 _ w11 (fun _ => ⟨⟨_, hd11⟩, rfl⟩) ?_
  clear hK0 K0
  repeat' (first
   | (refine zAm ?_ ?_)
   | (refine zBg ?_; go_wp2_with (fail); go_meet; exact ⟨rfl, HCUT⟩)
   | (refine zAc fun K0 hK0 => ?_; simp only [zAb, List.map_cons, List.map_nil, List.getD_cons_zero, List.getD_cons_succ]; go_wp2_with (fail); refine hK0 _ w11 (fun _ => ⟨⟨_, hd11⟩, rfl⟩) ?_; clear hK0 K0))
 case rest =>
  obtain ⟨rfl, hc⟩ := hcut
  obtain ⟨us, hd, ho, hb⟩ := zAa hc
  obtain ⟨A3, c3, rfl, hcc, hcm, hrd, hok⟩ := ho.at_
  have hlen : us.length = n := by have := congrArg List.length hd; rw [List.length_map, zAa HLN] at this; exact this
  rw [hlen] at hrd hcc ⊢
  have HV := hide ((zAa HVW) A3 c3 us wc hb hd ⟨hcc, hcm⟩ hrd hok)
  have kc := (zAa HKC).below hb (zAa HKC).lt
  have d0 : wc.cell? ⟨q, 0, none⟩ = some (.int .i64 c.br) := kc.cell 0
  have d1 : wc.cell? ⟨q, 1, none⟩ = some (.slice c.la.A c.la.n c.la.c) := kc.cell 1
  have d2 : wc.cell? ⟨q, 2, none⟩ = some (.int .i64 c.tk) := kc.cell 2
  have d3 : wc.cell? ⟨q, 3, none⟩ = some (.slice c.mi.A c.mi.n c.mi.c) := kc.cell 3
  have d4 : wc.cell? ⟨q, 4, none⟩ = some (.int .i64 c.cap) := kc.cell 4
  rw [hlen] at ho
  have HU := hide (And.intro hd (And.intro ho hb))
  clear hlen hd ho hb hcc hcm hrd hok kc e0 e1 e2 e3 e4 HPL HRD HNIL HN63 HNB H1C hc HVW
  go_wp2_with fail
  refine (zAa HV).mono ?_
  rintro _ w2 ⟨v2, vs, rfl, hd2, ho2, hb2⟩
  obtain ⟨A4, c4, rfl, _, _, _, _⟩ := ho2.at_
  have hlen2 : vs.length = n := by have := congrArg List.length hd2; rw [List.length_map, List.length_map, zAa HLN] at this; exact this
  rw [hlen2] at ho2 ⊢
  have HV2 := hide (And.intro hd2 (And.intro ho2 hb2))
  clear hd2 ho2 hb2 hlen2 d0 d1 d2 d3 d4 HV
  go_wp2_with fail
  go_ret3
  obtain ⟨hd, ho, hb⟩ := zAa HU
  obtain ⟨hd2, ho2, hb2⟩ := zAa HV2
  have hs := (zAa HBX).size
  exact ⟨_, _, vs, us, rfl, hd2, hd, ho2.mono (Nat.le_trans hs hb.size), (ho.below hb2).mono hs, (zAa HBX).trans ((hb.trans (hb2.mono hb.size)).mono hs)⟩
end
section
open Go.RowKit
theorem All2.of_get {α β : Type} {P : α → β → Prop} : ∀ {l : List α} {m : List β}, l.length = m.length → (∀ (i : Nat) (a : α) (b : β), l[i]? = some a → m[i]? = some b → P a b) → All2 P l m
 | [], [], _, _ => .nil
 | [], _ :: _, h, _ => by cases h
 | _ :: _, [], h, _ => by cases h
 | a :: l, b :: m, h, hp => .cons (hp 0 a b rfl rfl) (All2.of_get (by simpa using h) fun i x y hx hy => hp (i + 1) x y (by simpa using hx) (by simpa using hy))
theorem zSy {c : Cfg} {x : Nat} {s d : StpI} (hn : c.n = 4) (hw : 0 ≤ s.who ∧ s.who < 4) (hp : zLr c x s = true) : Alike c x s (zFi s d) := by
 unfold zLr at hp
 simp only [Bool.and_eq_true, Bool.or_eq_true, Bool.not_eq_true', decide_eq_true_eq] at hp
 obtain ⟨hx, hk⟩ := hp
 have h6 := Int.emod_nonneg d.kind (show (6 : Int) ≠ 0 by decide)
 have h6' := Int.emod_lt_of_pos d.kind (show (0 : Int) < 6 by decide)
 have h2 := Int.emod_nonneg d.kind (show (2 : Int) ≠ 0 by decide)
 have h2' := Int.emod_lt_of_pos d.kind (show (0 : Int) < 2 by decide)
 by_cases h78 : s.kind = 7 ∨ s.kind = 8
 ·have ht : ¬ tch c x s.label.toNat := fun e => by
   rcases hk with hk | hk
   ·omega
   ·rw [(tchB_iff hn).2 e] at hk
    exact absurd hk.2 (by simp)
  unfold zFi
  rw [if_pos h78]
  exact .inr ⟨rfl, hw.1, by omega, hx, .inr ⟨h78, by dsimp only; omega, rfl, ht⟩⟩
 ·have hk' : 1 ≤ s.kind ∧ s.kind ≤ 6 := by
   rcases hk with hk | hk
   ·exact hk
   ·exact absurd hk.1 h78
  unfold zFi
  rw [if_neg h78]
  exact .inr ⟨rfl, hw.1, by omega, hx, .inl ⟨hk'.1, hk'.2, by dsimp only; omega, by dsimp only; omega⟩⟩
theorem zXs {c : Cfg} {x : Nat} (hn : c.n = 4) (l ds : List StpI) (hw : ∀ s ∈ l, 0 ≤ s.who ∧ s.who < 4) : All2 (Alike c x) l (zEj c x l ds) := by
 unfold zEj
 refine All2.of_get (zFk c x l ds _).symm fun i a b ha hb => ?_
 rw [zIn] at hb
 split at hb
 ·rename_i hi
  injection hb with hb
  have e : l.getD i stpZero = a := by rw [List.getD_eq_getElem?_getD, ha]; rfl
  rw [e] at hb
  subst hb
  unfold zIa
  split
  ·rename_i hp
   exact zSy hn (hw a (List.mem_of_getElem? ha)) hp
  ·exact .inl rfl
 ·rw [ha] at hb
  injection hb with hb
  exact .inl hb
theorem other_wf {c : Cfg} {x : Nat} (l ds : List StpI) (hl : ∀ s ∈ l, zFm s) (hd : ∀ s ∈ ds, zFm s) : ∀ s ∈ zEj c x l ds, zFm s := fun s hs => by
 obtain ⟨i, hi⟩ := List.getElem?_of_mem hs
 unfold zEj at hi
 rw [zIn] at hi
 split at hi
 ·rename_i h
  injection hi with hi
  have e1 : l.getD i stpZero ∈ l := by rw [List.getD_eq_getElem?_getD, List.getElem?_eq_getElem h.2]; exact List.getElem_mem _
  have e2 : ds.getD i stpZero ∈ ds := by rw [List.getD_eq_getElem?_getD, List.getElem?_eq_getElem (by omega)]; exact List.getElem_mem _
  subst hi
  unfold zIa
  split
  ·unfold zFi
   split
   ·exact (show zFm (l.getD i stpZero) from hl _ e1)
   ·exact (show zFm (ds.getD i stpZero) from hd _ e2)
  ·exact hl _ e1
 ·exact hl s (List.mem_of_getElem? hi)
end
section
open Go.RowKit
def zGl (g : Nat) : Cfg := ⟨1, ⟨none, 0, 0, []⟩, 1, ⟨some ⟨g, 0, none⟩, 1, 1, [5]⟩, 3⟩
def sureSteps : List StpI := [⟨1, 0, 0, 2, 0, 0, 0, 0⟩, ⟨9, 0, 0, 0, 0, 0, 0, 0⟩, ⟨10, 0, 0, 0, 0, 0, 0, 0⟩, ⟨9, 0, 0, 0, 0, 0, 0, 0⟩, ⟨10, 0, 0, 0, 0, 3, 0, 0⟩, ⟨2, 0, 0, 1, 0, 0, 0, 0⟩]
theorem sure_run (g : Nat) : ((runW (zGl g) sureSteps (WS.new (zGl g))).1.map fun d => (d.code, d.who, d.stock.free, d.stock.used, d.sent.length, d.report)) = [(0, 0, 0, 0, 0, []), (0, 0, 0, 0, 2, [5]), (0, 1, 0, 0, 0, []), (0, 0, 0, 0, 2, [5]), (0, 0, 0, 0, 0, []), (0, 0, 1, 1, 0, [])] := by kernel_rfl
theorem zXa (g : Nat) : zAh (zGl g) = true := by kernel_rfl
set_option maxRecDepth 100000 in
set_option maxHeartbeats 4000000 in
theorem sure_any (w : World) (hT : OrdT w) (hg : 0 < w.heap.size) : Calls Tryz.prog 19 #[] w fun e w' => e = .returned (.bool true) ∧ Below w.heap.size w w' := by
 have HTG := hide (And.intro hT hg)
 clear hT hg
 go_enter Tryz.func19, Tryz.ntmps19
 go_upto_region 3 with fail
 obtain ⟨g, hgq⟩ : ∃ g, g = w.heap.size := ⟨_, rfl⟩
 obtain ⟨q, hq⟩ : ∃ q, q = w.heap.size + 1 := ⟨_, rfl⟩
 obtain ⟨r, hr⟩ : ∃ r, r = w.heap.size + 1 + 1 := ⟨_, rfl⟩
 obtain ⟨w1, hw1⟩ : ∃ w1, w1 = w.alloc (.cells #[.int .i64 5] 3) := ⟨_, rfl⟩
 obtain ⟨w2, hw2⟩ : ∃ w2, w2 = w1.alloc (.cells (zGl g).cells.toArray 24) := ⟨_, rfl⟩
 obtain ⟨w3, hw3⟩ : ∃ w3, w3 = w2.alloc (.cells (sureSteps.flatMap StpI.cells).toArray 48) := ⟨_, rfl⟩
 have hs1 : w1.heap.size = w.heap.size + 1 := by rw [hw1]; simp
 have hs2 : w2.heap.size = w.heap.size + 1 + 1 := by rw [hw2, World.size_alloc, hs1]
 have hb1 : Below w.heap.size w w1 := by rw [hw1]; exact (Below.refl _ _).alloc (Nat.le_refl _) _
 have hb2 : Below w.heap.size w w2 := by rw [hw2]; exact hb1.alloc hb1.size _
 have hb3 : Below w.heap.size w w3 := by rw [hw3]; exact hb2.alloc hb2.size _
 have k1 : IRow w3 g [5] [] := by
  have h : Blk w1 g 3 #[.int .i64 5] := by rw [hw1, hgq]; exact Blk.new _ _ _
  rw [hw3, hw2]
  exact (h.alloc _).alloc _
 have k2 : Blk w3 q 24 (zGl g).cells.toArray := by
  have h : Blk w2 q 24 (zGl g).cells.toArray := by rw [hw2, hq, ← hs1]; exact Blk.new _ _ _
  rw [hw3]
  exact h.alloc _
 have k3 : Blk w3 r 48 (sureSteps.flatMap StpI.cells).toArray := by rw [hw3, hr, ← hs2]; exact Blk.new _ _ _
 rw [show (w.alloc (.cells #[.int .i64 5] 3)) = w1 from hw1.symm]
 rw [← hr, ← hq, ← hgq]
 change Code.wp _ _ _ _ ((w1.alloc (.cells (zGl g).cells.toArray 24)).alloc (.cells (sureSteps.flatMap StpI.cells).toArray 48))
 rw [← hw2, ← hw3]
 obtain ⟨hT, hg⟩ := zAa HTG
 have hT3 : OrdT w3 := fun j hj => (hb3.cell (p := ⟨_, j, none⟩) hg).trans (hT j hj)
 have hg3 : 0 < w3.heap.size := Nat.lt_of_lt_of_le hg hb3.size
 have hrd : Reads w3 w3.heap.size 8 (some ⟨r, 0, none⟩) 6 (sureSteps.flatMap StpI.cells) := ⟨rfl, fun _ => ⟨_, rfl, k3.lt, fun j u hj => by
  have h1 := k3.cell j
  rw [List.getElem?_toArray, hj] at h1
  have e : (⟨r, 0, none⟩ : Addr).add j = ⟨r, j, none⟩ := by unfold Addr.add; split <;> simp_all
  rw [e]
  simpa using h1⟩⟩
 have hwf : ∀ s ∈ sureSteps, zFm s := fun s hs => by
  have h : 0 ≤ s.id ∧ s.id ≤ 3 := by
   unfold sureSteps at hs
   simp only [List.mem_cons, List.not_mem_nil, or_false] at hs
   rcases hs with rfl | rfl | rfl | rfl | rfl | rfl <;> decide
  exact WalkArith.wf_i64 (by omega)
 have hok : (zGl g).ok w3 w3.heap.size := ⟨⟨rfl, Nat.le_refl _, Nat.zero_le _, Reads.none_⟩, ⟨rfl, Nat.le_refl _, by show (1 : Nat) ≤ maxLen; unfold maxLen; omega, k1.reads rfl⟩, fun z hz => by cases hz⟩
 have HPL := hide (zMm (w := w3) (c := zGl g) (some ⟨r, 0, none⟩) 6 6 sureSteps w3.heap.size rfl (by unfold maxLen; omega) hrd hwf hok (Nat.le_refl _) hT3 hg3)
 have e0 : w3.cell? ⟨q, 0, none⟩ = some (.int .i64 1) := k2.cell 0
 have e1 : w3.cell? ⟨q, 1, none⟩ = some (.slice none 0 0) := k2.cell 1
 have e2 : w3.cell? ⟨q, 2, none⟩ = some (.int .i64 1) := k2.cell 2
 have e3 : w3.cell? ⟨q, 3, none⟩ = some (.slice (some ⟨g, 0, none⟩) 1 1) := k2.cell 3
 have e4 : w3.cell? ⟨q, 4, none⟩ = some (.int .i64 3) := k2.cell 4
 have HB3 := hide hb3
 have HPV := hide (show (zGl g).val = .agg #[.int .i64 1, .slice none 0 0, .int .i64 1, .slice (some ⟨g, 0, none⟩) 1 1, .int .i64 3] from rfl)
 rw [zAa HPV] at HPL
 clear hT hg hT3 hg3 hrd hwf hok hb1 hb2 hb3 k1 k2 k3 hw1 hw2 hw3 hs1 hs2 hr hq hgq HPV HTG
 go_wp2_with fail
 refine (zAa HPL).mono ?_
 rintro _ w4 ⟨v4, outs, rfl, hd, ho, hb⟩
 have hpp : zMb (zGl g) sureSteps = ((runW (zGl g) sureSteps (WS.new (zGl g))).1, 0) := (if_neg (by rw [zXa]; simp)).trans (if_neg (by decide))
 rw [hpp] at hd ⊢
 have hrun := sure_run g
 rw [← hd, List.map_map] at hrun
 obtain ⟨A4, c4, rfl, hcc, hcm, hrd, hok⟩ := ho.at_
 have hlen : outs.length = 6 := by have := congrArg List.length hrun; simpa using this
 rw [hlen] at hrd hcc ⊢
 obtain ⟨bt, ot, t1, rfl, hbt, ht1, hc1⟩ := zCf Tol.cells_len (by omega) hrd (k := 1) (by omega) hlen
 obtain ⟨bt', ot', t4, hA4, hbt4, ht4, hc4⟩ := zCf Tol.cells_len (by omega) hrd (k := 4) (by omega) hlen
 injection hA4 with hA4
 injection hA4 with h1 h2
 subst h1 h2
 obtain ⟨bt', ot', t5, hA5, hbt5, ht5, hc5⟩ := zCf Tol.cells_len (by omega) hrd (k := 5) (by omega) hlen
 injection hA5 with hA5
 injection hA5 with h1 h2
 subst h1 h2
 have g1 : t1.d.sent.length = 2 ∧ t1.d.report = [5] := by
  have h := congrArg (fun l => l[1]?) hrun
  simp [List.getElem?_map, ht1] at h
  exact ⟨h.2.2.2.2.1, h.2.2.2.2.2⟩
 have g4 : t4.d.who = 0 := by
  have h := congrArg (fun l => l[4]?) hrun
  simp [List.getElem?_map, ht4] at h
  exact h.2.1
 have g5 : t5.d.code = 0 ∧ t5.d.stock.free = 1 ∧ t5.d.stock.used = 1 := by
  have h := congrArg (fun l => l[5]?) hrun
  simp [List.getElem?_map, ht5] at h
  exact ⟨h.1, h.2.2.1, h.2.2.2.1⟩
 have o1 := hok t1 (List.mem_of_getElem? ht1)
 have hsn : t1.sn = 2 := by have := o1.sl; omega
 have hrn : t1.rn = 1 := by have := o1.rl; rw [g1.2] at this; simpa using this.symm
 have z1 : w4.cell? ⟨bt, ot + 1 * 11 + 8, none⟩ = some (.slice t1.sA 2 t1.sc) := by have h := hc1 8 _ rfl; rw [hsn] at h; exact h
 have z2 : w4.cell? ⟨bt, ot + 1 * 11 + 10, none⟩ = some (.slice t1.rA 1 t1.rc) := by have h := hc1 10 _ rfl; rw [hrn] at h; exact h
 have z3 : w4.cell? ⟨bt, ot + 4 * 11 + 1, none⟩ = some (.int .i64 0) := by have h := hc4 1 _ rfl; rw [g4] at h; exact h
 have z4 : w4.cell? ⟨bt, ot + 5 * 11, none⟩ = some (.int .i64 0) := by have h := hc5 0 _ rfl; rw [g5.1] at h; exact h
 have z5 : w4.cell? ⟨bt, ot + 5 * 11 + 4, none⟩ = some (.int .i64 1) := by have h := hc5 4 _ rfl; rw [g5.2.1] at h; exact h
 have z6 : w4.cell? ⟨bt, ot + 5 * 11 + 6, none⟩ = some (.int .i64 1) := by have h := hc5 6 _ rfl; rw [g5.2.2] at h; exact h
 have HBT := hbt
 have HRR := hide (show Reads w4 w4.heap.size 1 t1.rA 1 (([5] : List Int).map (.int .i64)) by have h := o1.rr; rw [hrn, g1.2] at h; exact h)
 have HB4 := hide ((zAa HB3).trans (hb.mono (zAa HB3).size))
 clear hrun hd ho hcc hcm hrd hok hlen hbt ht1 hc1 hbt4 ht4 hc4 hbt5 ht5 hc5 g1 g4 g5 o1 hsn hrn hb hpp e0 e1 e2 e3 e4 HPL HB3
 obtain ⟨w5, hw5⟩ : ∃ w5, w5 = w4.alloc (.cells #[.int .i64 5] 3) := ⟨_, rfl⟩
 obtain ⟨p5, hp5⟩ : ∃ p5, p5 = w4.heap.size := ⟨_, rfl⟩
 have hb5 : Below w4.heap.size w4 w5 := by rw [hw5]; exact (Below.refl _ _).alloc (Nat.le_refl _) _
 have k5 : IRow w5 p5 [5] [] := by rw [hw5, hp5]; exact Blk.new _ _ _
 have HB5 := hide ((zAa HB4).trans (hb5.mono (zAa HB4).size))
 have HSI := hide (zSz t1.rA (some ⟨p5, 0, none⟩) 1 t1.rc 1 [5] w5.heap.size w5 rfl (by omega) (((zAa HRR).below hb5).more hb5.size) (k5.reads rfl))
 have q3 : w5.cell? ⟨bt, ot + 4 * 11 + 1, none⟩ = some (.int .i64 0) := (hb5.cell (p := ⟨bt, ot + 4 * 11 + 1, none⟩) HBT).trans z3
 have q4 : w5.cell? ⟨bt, ot + 5 * 11, none⟩ = some (.int .i64 0) := (hb5.cell (p := ⟨bt, ot + 5 * 11, none⟩) HBT).trans z4
 have q5 : w5.cell? ⟨bt, ot + 5 * 11 + 4, none⟩ = some (.int .i64 1) := (hb5.cell (p := ⟨bt, ot + 5 * 11 + 4, none⟩) HBT).trans z5
 have q6 : w5.cell? ⟨bt, ot + 5 * 11 + 6, none⟩ = some (.int .i64 1) := (hb5.cell (p := ⟨bt, ot + 5 * 11 + 6, none⟩) HBT).trans z6
 have HW5 := hide hw5
 have HP5 := hide hp5
 have HQ := hide (And.intro q3 (And.intro q4 (And.intro q5 q6)))
 clear hw5 hp5 hb5 k5 q3 q4 q5 q6 HBT HRR z3 z4 z5 z6 HB4
 go_wp2_with fail
 rw [← zAa HW5, ← zAa HP5]
 refine (zAa HSI).mono ?_
 rintro _ w6 ⟨rfl, nq, hw6⟩
 obtain ⟨q3, q4, q5, q6⟩ := zAa HQ
 have hb6 : Below w5.heap.size w5 w6 := by rw [← hw6]; exact below_drewN (Below.refl _ _) nq
 have HB6 := hide ((zAa HB5).trans (hb6.mono (zAa HB5).size))
 have r3 : w6.cell? ⟨bt, ot + 4 * 11 + 1, none⟩ = some (.int .i64 0) := by rw [← hw6]; exact q3
 have r4 : w6.cell? ⟨bt, ot + 5 * 11, none⟩ = some (.int .i64 0) := by rw [← hw6]; exact q4
 have r5 : w6.cell? ⟨bt, ot + 5 * 11 + 4, none⟩ = some (.int .i64 1) := by rw [← hw6]; exact q5
 have r6 : w6.cell? ⟨bt, ot + 5 * 11 + 6, none⟩ = some (.int .i64 1) := by rw [← hw6]; exact q6
 clear hw6 hb6 q3 q4 q5 q6 z1 z2
 go_wp2_with fail
 go_ret
 exact ⟨rfl, zAa HB6⟩
end
section
open Go.RowKit
def loseAt (W : World) (g k : Nat) : World := (((((((W.setCell ⟨g, k * 8, none⟩ (.int .i64 11)).setCell ⟨g, k * 8 + 1, none⟩ (.int .i64 0)).setCell ⟨g, k * 8 + 2, none⟩ (.int .i64 0)).setCell ⟨g, k * 8 + 3, none⟩ (.int .i64 0)).setCell ⟨g, k * 8 + 4, none⟩ (.int .i64 0)).setCell ⟨g, k * 8 + 5, none⟩ (.int .i64 0)).setCell ⟨g, k * 8 + 6, none⟩ (.int .i64 0)).setCell ⟨g, k * 8 + 7, none⟩ (.int .i64 0)
structure FirstAt (w W : World) (q : Nat) (c : Cfg) (g h : Nat) (ls : List Int) (t minted most : Int) : Prop where
 bel : Below w.heap.size w W
 kc : Blk W q 24 c.cells.toArray
 cf : CfgNew W w.heap.size c g h ls t minted most
theorem CfgNew.calm {W W' : World} {B : Nat} {c : Cfg} {g h : Nat} {ls : List Int} {ticks minted most : Int} (H : CfgNew W B c g h ls ticks minted most) (hb : Below W.heap.size W W') : CfgNew W' B c g h ls ticks minted most :=
 ⟨H.br, H.la, H.tk, H.mi, H.cap, Blk.below H.rg hb (Blk.lt H.rg), Blk.below H.rh hb (Blk.lt H.rh), H.low, H.ne⟩
theorem FirstAt.below {w W W' : World} {q g h : Nat} {c : Cfg} {ls : List Int} {t minted most : Int} (H : FirstAt w W q c g h ls t minted most) (hb : Below W.heap.size W W') : FirstAt w W' q c g h ls t minted most :=
 ⟨H.bel.trans (hb.mono H.bel.size), H.kc.below hb H.kc.lt, H.cf.calm hb⟩
theorem zQc (ds : List StpI) : ∀ k, k ≤ 200 → ∀ s ∈ zCk ds k, (0 ≤ s.id ∧ s.id ≤ 5000) ∧ (0 ≤ s.who ∧ s.who < 4) ∧ 0 ≤ s.label ∧ s.label < 3
 | 0, _, s, h => by cases h
 | k + 1, hk, s, h => by
  rw [zCk] at h
  rcases List.mem_append.1 h with h | h
  ·exact zQc ds k (by omega) s h
  ·rw [List.mem_singleton] at h
   have hf := zLt (zCk ds k)
   rw [zFh] at hf
   obtain ⟨f, hff⟩ : ∃ f, f = zDr (zCk ds k) := ⟨_, rfl⟩
   rw [← hff] at h hf
   subst h
   obtain ⟨d, hd⟩ : ∃ d, d = ds.getD k stpZero := ⟨_, rfl⟩
   rw [← hd]
   have h1 : 0 ≤ d.id % ((f : Int) + 1) := Int.emod_nonneg _ (by omega)
   have h2 : d.id % ((f : Int) + 1) < f + 1 := Int.emod_lt_of_pos _ (by omega)
   unfold zDb
   dsimp only
   repeat' split
   all_goals first | (unfold zEv; dsimp only; omega) | (unfold zFu; dsimp only; omega) | (dsimp only; omega)
end
end Go.Proofs.YtbolcebmbpepdaaGreatDoor
