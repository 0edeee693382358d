/- Contracts and plain facts, set together by program out of smaller texts. Conditions: none beyond what each theorem states. -/
import Derived.Test.YtbolcebmbpepdaaGreatDoorM40
import Derived.Test.YtbolcebmbpepdaaGreatDoorM08
import Derived.Test.YtbolcebmbpepdaaGreatDoorM10
namespace Go.Proofs.YtbolcebmbpepdaaGreatDoor
set_option linter.unusedVariables false
section
open Go.RowKit
theorem cut4 {G : Prop} {P : Program} {l : List Oper} {Q : Exit → Act → World → Prop} {C : World → Prop} {cal : List Nat} {t : OT} {aF : Nat → Nat → Nat → Nat → Act} (R : Nat → Nat → Nat → Nat → World → Prop) (main : (∀ a b c d W, R a b c d W → wpT P l Q C cal t (aF a b c d) W) → G) (rest : ∀ a b c d W, R a b c d W → wpT P l Q C cal t (aF a b c d) W) : G := main rest
def zZa : OT := .fork (.next 1 (.next 2 (.next 3 (.next 4 (.next 5 .done))))) (.next 2 (.next 1 (.next 3 (.next 4 (.next 5 .done)))))
def zCu : OT := .next 15 (.next 16 (.next 17 (.next 18 (.next 19 (.next 20 (.next 21 .done))))))
def treeBg : OT := (.fork (.next 6 (.fork (.next 8 (.fork (.next 10 (.next 14 zCu)) (.next 14 (.next 10 zCu)))) (.fork (.next 10 (.fork (.next 8 (.next 14 zCu)) (.next 14 (.next 8 zCu)))) (.next 14 (.fork (.next 8 (.next 10 zCu)) (.next 10 (.next 8 zCu))))))) (.fork (.next 8 (.fork (.next 6 (.fork (.next 10 (.next 14 zCu)) (.next 14 (.next 10 zCu)))) (.fork (.next 10 (.fork (.next 6 (.next 14 zCu)) (.next 14 (.next 6 zCu)))) (.next 14 (.fork (.next 6 (.next 10 zCu)) (.next 10 (.next 6 zCu))))))) (.fork (.next 10 (.fork (.next 6 (.fork (.next 8 (.next 14 zCu)) (.next 14 (.next 8 zCu)))) (.fork (.next 8 (.fork (.next 6 (.next 14 zCu)) (.next 14 (.next 6 zCu)))) (.next 14 (.fork (.next 6 (.next 8 zCu)) (.next 8 (.next 6 zCu))))))) (.next 14 (.fork (.next 6 (.fork (.next 8 (.next 10 zCu)) (.next 10 (.next 8 zCu)))) (.fork (.next 8 (.fork (.next 6 (.next 10 zCu)) (.next 10 (.next 6 zCu)))) (.next 10 (.fork (.next 6 (.next 8 zCu)) (.next 8 (.next 6 zCu))))))))))
structure Row4 (wr : World) (c : Cfg) (bs ba bg bt : Nat) (W : World) : Prop where
 bel : Below wr.heap.size wr W
 s : Blk W bs 84 (zBz c.m)
 a : IRow W ba (List.replicate c.m 0) []
 g : IRow W bg (List.replicate c.m 0) []
 t : Blk W bt 103 (zBc c.ln)
 low : wr.heap.size ≤ bs ∧ wr.heap.size ≤ ba ∧ wr.heap.size ≤ bg ∧ wr.heap.size ≤ bt
 ag : ba ≠ bg
structure BgA (w W : World) (c : Cfg) (cb hb nb nk : Nat) (y : Lay) (vB vK : Value) (ow : Nat → Tag) : Prop where
 bg : BG W c y w.heap.size nb nk vB vK ow
 eqb : y.hb = hb
 bel : Below w.heap.size w W
 kb : Blk W cb 24 c.cells.toArray
 cl : w.heap.size ≤ cb
section
variable {w W W' : World} {c : Cfg} {cb hb nb nk : Nat} {y : Lay} {vB vK : Value} {ow : Nat → Tag}
theorem BgA.calm (h : BgA w W c cb hb nb nk y vB vK ow) (hw : Below W.heap.size W W') : BgA w W' c cb hb nb nk y vB vK ow := ⟨h.bg.calm hw, h.eqb, h.bel.trans (hw.mono h.bel.size), h.kb.below hw h.kb.lt, h.cl⟩
theorem BgA.cell (h : BgA w W c cb hb nb nk y vB vK ow) : W.cell? ⟨hb, 5, none⟩ = some vB ∧ W.cell? ⟨hb, 6, none⟩ = some vK ∧ W.frozen? ⟨hb, 5, none⟩ = false ∧ W.frozen? ⟨hb, 6, none⟩ = false := by
 have h1 := h.bg.blk
 rw [h.eqb] at h1
 exact ⟨h1.cell 5, h1.cell 6, h1.frozen 5, h1.frozen 6⟩
theorem BgA.low (h : BgA w W c cb hb nb nk y vB vK ow) : w.heap.size ≤ hb := by
 rw [← h.eqb]
 exact h.bg.low _ (by rw [h.bg.oc]; simp)
theorem BgA.branch {w7 : World} {b : BrA} {g7 cap7 : Nat} (h : BgA w W c cb hb nb nk y vB vK ow) (hw : Below W.heap.size W W') (hbn : BrNew W' c W.heap.size b) (hg : W'.grownBy w7 vB.ownBlock)
    (hown : w7.ownsRow w.heap.size 76 1 (.slice (some ⟨g7, 0, none⟩) (nb + 1) cap7) (nb + 1) ((List.range nb).map (fun i => Value.pointer (some ⟨(y.br i).b, 0, none⟩)) ++ [.pointer (some ⟨b.b, 0, none⟩)])) (hat : some g7 = vB.ownBlock ∨ W.heap.size ≤ g7) :
    (w7.cell? ⟨hb, 5, none⟩ = some vB ∧ w7.frozen? ⟨hb, 5, none⟩ = false) ∧ ∃ y' ow', BgA w (w7.setCell ⟨hb, 5, none⟩ (.slice (some ⟨g7, 0, none⟩) (nb + 1) cap7)) c cb hb (nb + 1) nk y' (.slice (some ⟨g7, 0, none⟩) (nb + 1) cap7) vK ow' := by
 have hW' := h.calm hw
 have o0 : Only (fun k => k = hb ∨ vB.ownBlock = some k) W W' := Only.of_below hw (fun x h1 h2 => by omega)
 have o1 : Only (fun k => vB.ownBlock = some k) W' w7 := (Only.refl _ _).grown hg (fun g hg _ => hg)
 have o2 : Only (fun k => k = hb) w7 (w7.setCell ⟨hb, 5, none⟩ (.slice (some ⟨g7, 0, none⟩) (nb + 1) cap7)) := zAg (Only.refl _ _) _ _
 have o3 : Only (fun k => k = hb ∨ vB.ownBlock = some k) W (w7.setCell ⟨hb, 5, none⟩ (.slice (some ⟨g7, 0, none⟩) (nb + 1) cap7)) := (o0.trans o1 fun x _ e => .inr e).trans o2 fun x _ e => .inl e
 have hk7 : Blk w7 y.hb 72 _ := hW'.bg.blk.only o1 (zAe hW'.bg.oB hW'.bg.blk (by decide))
 have hbW : ∀ k, (k = hb ∨ vB.ownBlock = some k) → k < W.heap.size := fun k hd => by
  rcases hd with rfl | e
  ·rw [← h.eqb]; exact h.bg.blk.lt
  ·exact (h.bg.oB.lt k e).2
 have hfar : ∀ {t : TypeId} {cs : Array Value} {q : Nat}, Blk W' q t cs → W.heap.size ≤ q → Blk (w7.setCell ⟨hb, 5, none⟩ (.slice (some ⟨g7, 0, none⟩) (nb + 1) cap7)) q t cs := fun hq hl =>
  (hq.only o1 (fun e => by have := hbW _ (.inr e); omega)).only o2 (fun e => by have := hbW _ (.inl e); omega)
 have hbr : BrNew (w7.setCell ⟨hb, 5, none⟩ (.slice (some ⟨g7, 0, none⟩) (nb + 1) cap7)) c W.heap.size b := ⟨hfar hbn.blk hbn.low.1, hfar hbn.s hbn.low.2.1, hfar hbn.a hbn.low.2.2.1, hfar hbn.g hbn.low.2.2.2.1, hfar hbn.t hbn.low.2.2.2.2, hbn.low, hbn.ag⟩
 have hat' : ∀ k, (Value.slice (some ⟨g7, 0, none⟩) (nb + 1) cap7).ownBlock = some k → vB.ownBlock = some k ∨ W.heap.size ≤ k := fun k hk => by
  have : k = g7 := by simpa [Value.ownBlock] using hk.symm
  subst this
  rcases hat with e | e
  ·exact .inl e.symm
  ·exact .inr e
 refine ⟨by rw [← h.eqb]; exact ⟨hk7.cell 5, hk7.frozen 5⟩, { y with br := upd1 y.br nb b }, _, h.bg.branch b (by rw [h.eqb]; exact o3) hbr ?_ (zAk hown o2 (fun k hk e => zAe hown hk7 (by decide) (by rw [hk, e, h.eqb]))) hat' h.bel.size, h.eqb, ?_, ?_, h.cl⟩
 ·have := hk7.set_ 5 (.slice (some ⟨g7, 0, none⟩) (nb + 1) cap7)
  rw [h.eqb] at this ⊢
  exact this
 ·refine (o3.to_below (fun x hx hd hx2 => ?_) h.bel.size) |> h.bel.trans
  rcases hx2 with rfl | e
  ·exact absurd h.low (by omega)
  ·have := (h.bg.oB.lt x e).1; omega
 ·exact h.kb.only o3 (fun hd => by
   rcases hd with e | e
   ·exact Blk.ne_ h.kb h.bg.blk (by decide) (by rw [e, h.eqb])
   ·exact zAe h.bg.oB h.kb (by decide) e)
theorem BgA.book {w7 : World} {p : BkL} {g7 cap7 : Nat} (h : BgA w W c cb hb nb nk y vB vK ow) (hw : Below W.heap.size W W') (hbn : BkAt W' w.heap.size c.n p c.cap c.tk (zIp (BkS.new c.n) (c.mi.zs.getD nk 0))) (hp : ∀ k, p.has k → W.heap.size ≤ k) (hg : W'.grownBy w7 vK.ownBlock)
    (hown : w7.ownsRow w.heap.size 73 1 (.slice (some ⟨g7, 0, none⟩) (nk + 1) cap7) (nk + 1) ((List.range nk).map (fun j => Value.pointer (some ⟨y.bg j, 0, none⟩)) ++ [.pointer (some ⟨p.g, 0, none⟩)])) (hat : some g7 = vK.ownBlock ∨ W.heap.size ≤ g7) :
    (w7.cell? ⟨hb, 6, none⟩ = some vK ∧ w7.frozen? ⟨hb, 6, none⟩ = false) ∧ ∃ y' ow', BgA w (w7.setCell ⟨hb, 6, none⟩ (.slice (some ⟨g7, 0, none⟩) (nk + 1) cap7)) c cb hb nb (nk + 1) y' vB (.slice (some ⟨g7, 0, none⟩) (nk + 1) cap7) ow' := by
 have hW' := h.calm hw
 have o0 : Only (fun k => k = hb ∨ vK.ownBlock = some k) W W' := Only.of_below hw (fun x h1 h2 => by omega)
 have o1 : Only (fun k => vK.ownBlock = some k) W' w7 := (Only.refl _ _).grown hg (fun g hg _ => hg)
 have o2 : Only (fun k => k = hb) w7 (w7.setCell ⟨hb, 6, none⟩ (.slice (some ⟨g7, 0, none⟩) (nk + 1) cap7)) := zAg (Only.refl _ _) _ _
 have o3 : Only (fun k => k = hb ∨ vK.ownBlock = some k) W (w7.setCell ⟨hb, 6, none⟩ (.slice (some ⟨g7, 0, none⟩) (nk + 1) cap7)) := (o0.trans o1 fun x _ e => .inr e).trans o2 fun x _ e => .inl e
 have o4 : Only (fun k => k = hb ∨ vK.ownBlock = some k) W' (w7.setCell ⟨hb, 6, none⟩ (.slice (some ⟨g7, 0, none⟩) (nk + 1) cap7)) := (o1.mono fun x _ e => .inr e).trans o2 fun x _ e => .inl e
 have hk7 : Blk w7 y.hb 72 _ := hW'.bg.blk.only o1 (zAe hW'.bg.oK hW'.bg.blk (by decide))
 have hbW : ∀ k, (k = hb ∨ vK.ownBlock = some k) → k < W.heap.size := fun k hd => by
  rcases hd with rfl | e
  ·rw [← h.eqb]; exact h.bg.blk.lt
  ·exact (h.bg.oK.lt k e).2
 have hat' : ∀ k, (Value.slice (some ⟨g7, 0, none⟩) (nk + 1) cap7).ownBlock = some k → vK.ownBlock = some k ∨ W.heap.size ≤ k := fun k hk => by
  have : k = g7 := by simpa [Value.ownBlock] using hk.symm
  subst this
  rcases hat with e | e
  ·exact .inl e.symm
  ·exact .inr e
 refine ⟨by rw [← h.eqb]; exact ⟨hk7.cell 6, hk7.frozen 6⟩, { y with bg := upd1 y.bg nk p.g }, _, h.bg.book p (by rw [h.eqb]; exact o3) (hbn.only o4 (fun k hk hd => by have := hp k hk; have := hbW k hd; omega)) hp ?_ (zAk hown o2 (fun k hk e => zAe hown hk7 (by decide) (by rw [hk, e, h.eqb]))) hat' h.bel.size, h.eqb, ?_, ?_, h.cl⟩
 ·have := hk7.set_ 6 (.slice (some ⟨g7, 0, none⟩) (nk + 1) cap7)
  rw [h.eqb] at this ⊢
  exact this
 ·refine (o3.to_below (fun x hx hd hx2 => ?_) h.bel.size) |> h.bel.trans
  rcases hx2 with rfl | e
  ·exact absurd h.low (by omega)
  ·have := (h.bg.oK.lt x e).1; omega
 ·exact h.kb.only o3 (fun hd => by
   rcases hd with e | e
   ·exact Blk.ne_ h.kb h.bg.blk (by decide) (by rw [e, h.eqb])
   ·exact zAe h.bg.oK h.kb (by decide) e)
theorem BgA.start {og ob lb : Nat} (hm : 0 < c.m) (hw : Below w.heap.size w W) (hblk : Blk W hb 72 #[.int .i64 c.br, .slice c.la.A c.la.n c.la.c, .int .i64 c.tk, .slice c.mi.A c.mi.n c.mi.c, .int .i64 c.cap, .slice none 0 0, .slice none 0 0, .pointer (some ⟨og, 0, none⟩), .map (some lb)]) (hof : OfAt W w.heap.size og ob (.slice none 0 0) [] 0 (fun _ _ => 0)) (hls : LostMap W lb 0 (fun _ => false)) (hcb : Blk W cb 24 c.cells.toArray) (hlow : w.heap.size ≤ hb ∧ w.heap.size ≤ og ∧ w.heap.size ≤ ob ∧ w.heap.size ≤ lb ∧ w.heap.size ≤ cb) (hne : ob ≠ lb) (hno : og ≠ lb) (hnh : hb ≠ lb) :
    ∃ y ow, BgA w W c cb hb 0 0 y (.slice none 0 0) (.slice none 0 0) ow := by
 have n1 : hb ≠ og := Blk.ne_ hblk hof.blk (by decide)
 have n2 : hb ≠ ob := zHs hblk hof.map
 have n3 : og ≠ ob := zHs hof.blk hof.map
 refine ⟨⟨hb, 0, 0, 0, 0, og, ob, lb, fun _ => ⟨0, 0, 0, 0, 0⟩, fun _ => 0⟩, fun k => if k = hb then .con else if k = og ∨ k = ob then .off else if k = lb then .lst else .no, ⟨hblk, World.ownsRow_nil _ _ _ _, World.ownsRow_nil _ _ _ _, fun i hi => by omega, fun i hi => by omega, fun i hi => by omega, fun i hi => by omega, fun i hi => by omega, fun j hj => by omega, ⟨⟨.slice none 0 0, [], 0, hof, Nat.le_refl _, rfl, fun p hp => (by cases hp), fun k hk => (by cases hk)⟩, ?_, ?_⟩, ⟨⟨0, hls, Nat.le_refl _⟩, ?_⟩, if_pos rfl, fun i hi => by omega, fun k hk => (by cases hk), fun k hk => (by cases hk), fun k hk => ?_, fun k hk => ?_, hm⟩, rfl, hw, hcb, hlow.2.2.2.2⟩
 ·exact (if_neg (Ne.symm n1)).trans (if_pos (.inl rfl))
 ·exact (if_neg (Ne.symm n2)).trans (if_pos (.inr rfl))
 ·exact ((if_neg (Ne.symm hnh)).trans (if_neg (by rintro (e | e); exact hno e.symm; exact hne e.symm))).trans (if_pos rfl)
 ·refine Nat.not_lt.1 fun hlt => hk ?_
  rw [if_neg (by omega), if_neg (by omega), if_neg (by omega)]
 ·have h1 := hblk.lt
  have h2 := hof.blk.lt
  have h3 := hof.map.lt
  have h4 := hls.lt
  rw [if_neg (by omega), if_neg (by omega), if_neg (by omega)]
end
section
variable {w : World} {c : Cfg}
set_option maxRecDepth 100000 in
set_option maxHeartbeats 4000000 in
theorem yEd (hc : c.ok w w.heap.size) (hcf : zAh c = true) :
    Calls Tryz.prog 39 #[c.val] w fun e w' => ∃ y ow, e = .returned (.pointer (some ⟨y.hb, 0, none⟩)) ∧ PW w' c y (WS.new c) 0 w.heap.size ow ∧ Below w.heap.size w w' := by
 obtain ⟨⟨hn, hn1, hn8⟩, hln, htk, hm3, hcap, hla, hmi⟩ := zAj hcf
 have hmpos : 0 < c.m := hm3.1
 obtain ⟨iS, hiS, zS, hzS, hcS, hsS, hyS⟩ : ∃ i, Tryz.prog.info? 84 = some i ∧ ∃ z, i.zero = some z ∧ z.cells.toList = [Value.int .i64 0, .int .i64 0, .int .i64 0, .slice none 0 0] ∧ i.size = 4 ∧ i.bytes = 48 := zGq (by kernel_rfl)
 obtain ⟨iI, hiI, hzI, hsI, hyI⟩ : ∃ i, Tryz.prog.info? 3 = some i ∧ i.zero = some (.int .i64 0) ∧ i.size = 1 ∧ i.bytes = 8 := zEm (by kernel_rfl)
 obtain ⟨iL, hiL, zL, hzL, hcL, hsL, hyL⟩ : ∃ i, Tryz.prog.info? 103 = some i ∧ ∃ z, i.zero = some z ∧ z.cells.toList = [Value.slice none 0 0] ∧ i.size = 1 ∧ i.bytes = 24 := zGq (by kernel_rfl)
 obtain ⟨iP, hiP, hzP, hsP, hyP⟩ : ∃ i, Tryz.prog.info? 76 = some i ∧ i.zero = some (.pointer none) ∧ i.size = 1 ∧ i.bytes = 8 := zEm (by kernel_rfl)
 obtain ⟨iK, hiK, hzK, hsK, hyK⟩ : ∃ i, Tryz.prog.info? 73 = some i ∧ i.zero = some (.pointer none) ∧ i.size = 1 ∧ i.bytes = 8 := zEm (by kernel_rfl)
 have hzc : zS.cells = #[.int .i64 0, .int .i64 0, .int .i64 0, .slice none 0 0] := by rw [← Array.toList_inj]; exact hcS
 have hmkS := fun W => zDn (P := Tryz.prog) 77 84 iS _ Tryz.underlying77 hiS hzS .i64 .i64 c.m c.m (Nat.le_refl _) (by rw [hyS]; omega) (by omega) W
 rw [hsS, hzc, show madeCells #[Value.int .i64 0, .int .i64 0, .int .i64 0, .slice none 0 0] (c.m * 4) = zBz c.m from rfl] at hmkS
 have hmkI := fun W => zDn (P := Tryz.prog) 22 3 iI _ Tryz.underlying22 hiI hzI .i64 .i64 c.m c.m (Nat.le_refl _) (by rw [hyI]; omega) (by omega) W
 rw [hsI, Nat.mul_one, show (Value.int .i64 0).cells = #[Value.int .i64 0] from rfl] at hmkI
 have hmkT := fun W => zDn (P := Tryz.prog) 79 103 iL _ Tryz.underlying79 hiL hzL .i64 .i64 c.ln c.ln (Nat.le_refl _) (by rw [hyL]; omega) (by omega) W
 rw [hsL, Nat.mul_one, zPh c.ln zL.cells hcL] at hmkT
 have HMS := hide hmkS
 have HMI := hide hmkI
 have HMT := hide hmkT
 obtain ⟨cb, hcb⟩ : ∃ p, p = w.heap.size := ⟨_, rfl⟩
 obtain ⟨wx, hwx⟩ : ∃ wx, wx = w.alloc (.cells c.cells.toArray 24) := ⟨_, rfl⟩
 have hbx : Below w.heap.size w wx := by rw [hwx]; exact (Below.refl _ _).alloc (Nat.le_refl _) _
 have kc : Blk wx cb 24 c.cells.toArray := by rw [hwx, hcb]; exact Blk.new _ _ _
 have HBX := hide hbx
 have HKC := hide kc
 have HCB := hide hcb
 have HWX := hide hwx
 have HN := hide hn
 have HC := hide hc
 have HCF := hide hcf
 have HLA := hide hla
 have HMI2 := hide hmi
 have HTK := hide htk
 have HCP := hide hcap
 have HMN := hide (show c.mi.n = c.m from hc.2.1.1.symm)
 have HLN2 := hide (show c.la.n = c.ln from hc.1.1.symm)
 have HNEW := hide (fun W => zTj W w.heap.size)
 have d0 := fun n : Ext wx => n.cell (show wx.cell? ⟨cb, 0, none⟩ = some (.int .i64 c.br) from kc.cell 0)
 have d1 := fun n : Ext wx => n.cell (show wx.cell? ⟨cb, 1, none⟩ = some (.slice c.la.A c.la.n c.la.c) from kc.cell 1)
 have d2 := fun n : Ext wx => n.cell (show wx.cell? ⟨cb, 2, none⟩ = some (.int .i64 c.tk) from kc.cell 2)
 have d3 := fun n : Ext wx => n.cell (show wx.cell? ⟨cb, 3, none⟩ = some (.slice c.mi.A c.mi.n c.mi.c) from kc.cell 3)
 have d4 := fun n : Ext wx => n.cell (show wx.cell? ⟨cb, 4, none⟩ = some (.int .i64 c.cap) from kc.cell 4)
 clear hbx kc hcb hwx hn hc hcf hla hmi htk hcap hmkS hmkI hmkT hzc hcS hzS
 unfold Cfg.val
 go_enter Tryz.func39, Tryz.ntmps39
 go_upto_region 1 with fail
 rw [show (#[.int .i64 c.br, .slice c.la.A c.la.n c.la.c, .int .i64 c.tk, .slice c.mi.A c.mi.n c.mi.c, .int .i64 c.cap] : Array Value) = c.cells.toArray from rfl, ← zAa HWX, ← zAa HCB]
 go_cut [3] (fun s3 W => ∃ hb, s3 = .pointer (some ⟨hb, 0, none⟩) ∧ Hid (∃ y ow, BgA w W c cb hb 0 0 y (.slice none 0 0) (.slice none 0 0) ow))
 case first =>
  refine zBt [0] [1, 2, 3, 4, 5] zZa (by kernel_rfl) (by kernel_rfl) (by intro c a d v w h; cases d <;> exact h) ?_
  simp only [zAb, List.map_cons, List.map_nil, List.getD_cons_zero]
  repeat (go_big_quiet_step (fail))
  refine wpQuiet_nil ?_
  clear d0 d1 d2 d3 d4
  have hd0 : Below wx.heap.size wx wx.drew := (Below.refl _ wx).drew
  generalize wx.drew = wd at hd0 ⊢
  unfold zZa
  refine zAm ?_ ?_
  ·refine zAc fun K0 hK0 => ?_
   simp only [zAb, List.map_cons, List.map_nil, List.getD_cons_zero, List.getD_cons_succ]
   go_wp2_with fail
   refine (zAa HNEW wd).mono ?_
   rintro _ w2 ⟨og, ob, rfl, hof, hbo, hgl, hbl2⟩
   go_wp2_with fail
   refine hK0 _ w2 (fun _ => ⟨⟨_, hd0.trans (hbo.mono hd0.size)⟩, rfl⟩) ?_
   clear hK0 K0
   refine zAc fun K0 hK0 => ?_
   simp only [zAb, List.map_cons, List.map_nil, List.getD_cons_zero, List.getD_cons_succ]
   have hmm := @run_makeMap Tryz.prog
   go_wp2_with fail
   clear hmm
   obtain ⟨w3, hwm⟩ : ∃ w3, w3 = w2.alloc (.map #[] 0) := ⟨_, rfl⟩
   obtain ⟨lb, hlb⟩ : ∃ lb, lb = w2.heap.size := ⟨_, rfl⟩
   have hbm : Below w2.heap.size w2 w3 := by rw [hwm]; exact (Below.refl _ _).alloc (Nat.le_refl _) _
   have hls : LostMap w3 lb 0 (fun _ => false) := by rw [hwm, hlb]; exact LostMap.made w2
   rw [← hwm, ← hlb]
   have hle : w2.heap.size ≤ lb := by rw [hlb]; exact Nat.le_refl _
   clear hwm hlb
   refine hK0 _ w3 (fun _ => ⟨⟨_, (hd0.trans (hbo.mono hd0.size)).trans (hbm.mono (Nat.le_trans hd0.size hbo.size))⟩, rfl⟩) ?_
   clear hK0 K0
   have hof3 := (hof.calm hbm)
   have hls3 := hls
   have hB3 : Below wx.heap.size wx w3 := (hd0.trans (hbo.mono hd0.size)).trans (hbm.mono (Nat.le_trans hd0.size hbo.size))
   have hne : ob ≠ lb := by have := hof.map.lt; omega
   have hno : og ≠ lb := by have := hof.blk.lt; omega
   have hbw0 := (zAa HBX).size
   have hdz := hd0.size
   have hoz := hbo.size
   have hll : w.heap.size ≤ lb ∧ w.heap.size ≤ og ∧ w.heap.size ≤ ob := by omega
   refine zAc fun K0 hK0 => ?_
   simp only [zAb, List.map_cons, List.map_nil, List.getD_cons_zero, List.getD_cons_succ]
   go_wp2_with fail
   refine hK0 _ w3 (fun _ => ⟨⟨_, hB3⟩, rfl⟩) ?_
   clear hK0 K0
   refine zAc fun K0 hK0 => ?_
   simp only [zAb, List.map_cons, List.map_nil, List.getD_cons_zero, List.getD_cons_succ]
   go_wp2_with fail
   obtain ⟨w4, hw4⟩ : ∃ w4, w4 = w3.alloc (.cells #[.int .i64 c.br, .slice c.la.A c.la.n c.la.c, .int .i64 c.tk, .slice c.mi.A c.mi.n c.mi.c, .int .i64 c.cap, .slice none 0 0, .slice none 0 0, .pointer (some ⟨og, 0, none⟩), .map (some lb)] 72) := ⟨_, rfl⟩
   obtain ⟨hb, hhb⟩ : ∃ hb, hb = w3.heap.size := ⟨_, rfl⟩
   have hb4 : Below w3.heap.size w3 w4 := by rw [hw4]; exact (Below.refl _ _).alloc (Nat.le_refl _) _
   have k4 : Blk w4 hb 72 #[.int .i64 c.br, .slice c.la.A c.la.n c.la.c, .int .i64 c.tk, .slice c.mi.A c.mi.n c.mi.c, .int .i64 c.cap, .slice none 0 0, .slice none 0 0, .pointer (some ⟨og, 0, none⟩), .map (some lb)] := by rw [hw4, hhb]; exact Blk.new _ _ _
   rw [← hw4, ← hhb]
   have hB4 := hB3.trans (hb4.mono hB3.size)
   have hnh : hb ≠ lb := by have := hls3.lt; omega
   have hst := BgA.start (w := w) (c := c) (cb := cb) hmpos ((zAa HBX).trans (hB4.mono (zAa HBX).size)) k4 (hof3.calm hb4) (hls3.below hb4) ((zAa HKC).below hB4 (zAa HKC).lt) ⟨by have := hB3.size; omega, hll.2.1, hll.2.2, hll.1, by rw [zAa HCB]; exact Nat.le_refl _⟩ hne hno hnh
   refine hK0 _ w4 (fun _ => ⟨⟨_, hB4⟩, rfl⟩) ?_
   clear hK0 K0 hw4 hhb
   refine zAc fun K0 hK0 => ?_
   simp only [zAb, List.map_cons, List.map_nil, List.getD_cons_zero, List.getD_cons_succ]
   go_wp2_with fail
   refine hK0 _ w4 (fun _ => ⟨⟨_, hB4⟩, rfl⟩) ?_
   refine zBg ?_
   go_wp2_with fail
   go_meet
   exact ⟨hb, rfl, hide hst⟩
  ·refine zAc fun K0 hK0 => ?_
   simp only [zAb, List.map_cons, List.map_nil, List.getD_cons_zero, List.getD_cons_succ]
   have hmm := @run_makeMap Tryz.prog
   go_wp2_with fail
   clear hmm
   obtain ⟨w2, hwm⟩ : ∃ w2, w2 = wd.alloc (.map #[] 0) := ⟨_, rfl⟩
   obtain ⟨lb, hlb⟩ : ∃ lb, lb = wd.heap.size := ⟨_, rfl⟩
   have hbm : Below wd.heap.size wd w2 := by rw [hwm]; exact (Below.refl _ _).alloc (Nat.le_refl _) _
   have hls : LostMap w2 lb 0 (fun _ => false) := by rw [hwm, hlb]; exact LostMap.made wd
   rw [← hwm, ← hlb]
   have hle : wd.heap.size ≤ lb := by rw [hlb]; exact Nat.le_refl _
   clear hwm hlb
   refine hK0 _ w2 (fun _ => ⟨⟨_, hd0.trans (hbm.mono hd0.size)⟩, rfl⟩) ?_
   clear hK0 K0
   refine zAc fun K0 hK0 => ?_
   simp only [zAb, List.map_cons, List.map_nil, List.getD_cons_zero, List.getD_cons_succ]
   go_wp2_with fail
   refine (zAa HNEW w2).mono ?_
   rintro _ w3 ⟨og, ob, rfl, hof, hbo, hgl, hbl2⟩
   go_wp2_with fail
   refine hK0 _ w3 (fun _ => ⟨⟨_, (hd0.trans (hbm.mono hd0.size)).trans (hbo.mono (Nat.le_trans hd0.size hbm.size))⟩, rfl⟩) ?_
   clear hK0 K0
   have hof3 := hof
   have hls3 := hls.below hbo
   have hB3 : Below wx.heap.size wx w3 := (hd0.trans (hbm.mono hd0.size)).trans (hbo.mono (Nat.le_trans hd0.size hbm.size))
   have hne : ob ≠ lb := by have := hls.lt; omega
   have hno : og ≠ lb := by have := hls.lt; omega
   have hbw0 := (zAa HBX).size
   have hdz := hd0.size
   have hmz := hbm.size
   have hll : w.heap.size ≤ lb ∧ w.heap.size ≤ og ∧ w.heap.size ≤ ob := by omega
   refine zAc fun K0 hK0 => ?_
   simp only [zAb, List.map_cons, List.map_nil, List.getD_cons_zero, List.getD_cons_succ]
   go_wp2_with fail
   refine hK0 _ w3 (fun _ => ⟨⟨_, hB3⟩, rfl⟩) ?_
   clear hK0 K0
   refine zAc fun K0 hK0 => ?_
   simp only [zAb, List.map_cons, List.map_nil, List.getD_cons_zero, List.getD_cons_succ]
   go_wp2_with fail
   obtain ⟨w4, hw4⟩ : ∃ w4, w4 = w3.alloc (.cells #[.int .i64 c.br, .slice c.la.A c.la.n c.la.c, .int .i64 c.tk, .slice c.mi.A c.mi.n c.mi.c, .int .i64 c.cap, .slice none 0 0, .slice none 0 0, .pointer (some ⟨og, 0, none⟩), .map (some lb)] 72) := ⟨_, rfl⟩
   obtain ⟨hb, hhb⟩ : ∃ hb, hb = w3.heap.size := ⟨_, rfl⟩
   have hb4 : Below w3.heap.size w3 w4 := by rw [hw4]; exact (Below.refl _ _).alloc (Nat.le_refl _) _
   have k4 : Blk w4 hb 72 #[.int .i64 c.br, .slice c.la.A c.la.n c.la.c, .int .i64 c.tk, .slice c.mi.A c.mi.n c.mi.c, .int .i64 c.cap, .slice none 0 0, .slice none 0 0, .pointer (some ⟨og, 0, none⟩), .map (some lb)] := by rw [hw4, hhb]; exact Blk.new _ _ _
   rw [← hw4, ← hhb]
   have hB4 := hB3.trans (hb4.mono hB3.size)
   have hnh : hb ≠ lb := by have := hls3.lt; omega
   have hst := BgA.start (w := w) (c := c) (cb := cb) hmpos ((zAa HBX).trans (hB4.mono (zAa HBX).size)) k4 (hof3.calm hb4) (hls3.below hb4) ((zAa HKC).below hB4 (zAa HKC).lt) ⟨by have := hB3.size; omega, hll.2.1, hll.2.2, hll.1, by rw [zAa HCB]; exact Nat.le_refl _⟩ hne hno hnh
   refine hK0 _ w4 (fun _ => ⟨⟨_, hB4⟩, rfl⟩) ?_
   clear hK0 K0 hw4 hhb
   refine zAc fun K0 hK0 => ?_
   simp only [zAb, List.map_cons, List.map_nil, List.getD_cons_zero, List.getD_cons_succ]
   go_wp2_with fail
   refine hK0 _ w4 (fun _ => ⟨⟨_, hB4⟩, rfl⟩) ?_
   refine zBg ?_
   go_wp2_with fail
   go_meet
   exact ⟨hb, rfl, hide hst⟩
 case rest =>
  obtain ⟨hb, rfl, HST⟩ := hcut
  obtain ⟨y0, ow0, hst⟩ := zAa HST
  have HS0 := hide hst
  clear d0 d1 d2 d3 d4
  have c0 : wc.cell? ⟨cb, 0, none⟩ = some (.int .i64 c.br) := hst.kb.cell 0
  rw [zAa HN] at c0
  clear hst HST
  go_wp2_with fail
  go_loopw [15] (fun i wr => ∃ (k : Nat) (y : Lay) (vB : Value) (ow : Nat → Tag), k ≤ c.n ∧ i = .int .i64 k ∧ Hid (BgA w wr c cb hb k 0 y vB (.slice none 0 0) ow)) (fun i _ => c.n - (intOf i).toNat)
  case atStart => exact ⟨0, y0, .slice none 0 0, ow0, Nat.zero_le _, rfl, HS0⟩
  case round =>
   obtain ⟨k, y, vB, ow, hk, rfl, HA⟩ := hrel
   by_cases hlt : k < c.n
   ·
    have hlt' : (k : Int) < (c.n : Int) := by omega
    have c3 : wr.cell? ⟨cb, 3, none⟩ = some (.slice c.mi.A c.mi.n c.mi.c) := (zAa HA).kb.cell 3
    rw [zAa HMN] at c3
    clear c0
    go_upto_region 5 with fail
    clear c3
    obtain ⟨A, cB, hvB, _⟩ := zAf (zAa HA).bg.oB
    subst hvB
    have e1 := fun n : Ext wr => n.cell (show wr.cell? ⟨cb, 1, none⟩ = some (.slice c.la.A c.ln c.la.c) by have h := (zAa HA).kb.cell 1; rw [← zAa HLN2]; exact h)
    have e5 := fun n : Ext wr => n.cell (zAa HA).cell.1
    refine zHu [0] [1, 2, 3, 4, 5, 7, 9, 11, 12, 13] [6, 8, 10, 14, 15, 16, 17] 18 [19, 20, 21] treeBg (by kernel_rfl) (by kernel_rfl) (by intro c a d v w h; cases d <;> exact h) ?_
    simp only [zAb, List.map_cons, List.map_nil, List.getD_cons_zero, List.getD_cons_succ]
    repeat (go_big_quiet_step (fail))
    refine wpQuiet_nil ?_
    repeat (go_big_quiet_step (fail))
    refine wpQuiet_nil ?_
    clear e1 e5
    have hB0 : Below wr.heap.size wr wr.drew := (Below.refl _ wr).drew
    generalize wr.drew = wd at hB0 ⊢
    unfold treeBg
    apply cut4 (Row4 wr c)
    ·intro HREST
     refine zAm ?_ ?_
     ·refine zAc fun K0 hK0 => ?_
      simp only [zAb, List.map_cons, List.map_nil, List.getD_cons_zero, List.getD_cons_succ]
      have hmk := zAa HMS wd
      go_wp2_with fail
      clear hmk
      obtain ⟨w1, hw⟩ : ∃ w1, w1 = wd.alloc (.cells (zBz c.m) 84) := ⟨_, rfl⟩
      obtain ⟨bs, hb⟩ : ∃ bs, bs = wd.heap.size := ⟨_, rfl⟩
      have hbl : Below wd.heap.size wd w1 := by rw [hw]; exact (Below.refl _ _).alloc (Nat.le_refl _) _
      rw [← hw, ← hb]
      have ks1 : Blk w1 bs 84 (zBz c.m) := by rw [hw, hb]; exact Blk.new _ _ _
      have ls : wr.heap.size ≤ bs := by rw [hb]; exact hB0.size
      have hB1 := hB0.trans (hbl.mono hB0.size)
      refine hK0 _ w1 (fun _ => ⟨⟨_, hB1⟩, rfl⟩) ?_
      clear hK0 K0 hw hb hbl
      refine zAm ?_ ?_
      ·refine zAc fun K0 hK0 => ?_
       simp only [zAb, List.map_cons, List.map_nil, List.getD_cons_zero, List.getD_cons_succ]
       have hmk := zAa HMI w1
       go_wp2_with fail
       clear hmk
       obtain ⟨w2, hw⟩ : ∃ w2, w2 = w1.alloc (.cells (madeCells #[Value.int .i64 0] c.m) 3) := ⟨_, rfl⟩
       obtain ⟨ba, hb⟩ : ∃ ba, ba = w1.heap.size := ⟨_, rfl⟩
       have hbl : Below w1.heap.size w1 w2 := by rw [hw]; exact (Below.refl _ _).alloc (Nat.le_refl _) _
       rw [← hw, ← hb]
       have ka2 : IRow w2 ba (List.replicate c.m 0) [] := by rw [hw, hb]; exact zBe w1 c.m
       have la : wr.heap.size ≤ ba := by rw [hb]; exact hB1.size
       have hB2 := hB1.trans (hbl.mono hB1.size)
       have ks2 := Blk.below ks1 hbl (Blk.lt ks1)
       refine hK0 _ w2 (fun _ => ⟨⟨_, hB2⟩, rfl⟩) ?_
       clear hK0 K0 hw hb hbl
       refine zAm ?_ ?_
       ·refine zAc fun K0 hK0 => ?_
        simp only [zAb, List.map_cons, List.map_nil, List.getD_cons_zero, List.getD_cons_succ]
        have hmk := zAa HMI w2
        go_wp2_with fail
        clear hmk
        obtain ⟨w3, hw⟩ : ∃ w3, w3 = w2.alloc (.cells (madeCells #[Value.int .i64 0] c.m) 3) := ⟨_, rfl⟩
        obtain ⟨bg, hb⟩ : ∃ bg, bg = w2.heap.size := ⟨_, rfl⟩
        have hbl : Below w2.heap.size w2 w3 := by rw [hw]; exact (Below.refl _ _).alloc (Nat.le_refl _) _
        rw [← hw, ← hb]
        have kg3 : IRow w3 bg (List.replicate c.m 0) [] := by rw [hw, hb]; exact zBe w2 c.m
        have lg : wr.heap.size ≤ bg := by rw [hb]; exact hB2.size
        have hB3 := hB2.trans (hbl.mono hB2.size)
        have ks3 := Blk.below ks2 hbl (Blk.lt ks2)
        have ka3 := Blk.below ka2 hbl (Blk.lt ka2)
        have nag : ba ≠ bg := by have := Blk.lt ka2; omega
        refine hK0 _ w3 (fun _ => ⟨⟨_, hB3⟩, rfl⟩) ?_
        clear hK0 K0 hw hb hbl
        refine zAc fun K0 hK0 => ?_
        simp only [zAb, List.map_cons, List.map_nil, List.getD_cons_zero, List.getD_cons_succ]
        have hmk := zAa HMT w3
        go_wp2_with fail
        clear hmk
        obtain ⟨w4, hw⟩ : ∃ w4, w4 = w3.alloc (.cells (zBc c.ln) 103) := ⟨_, rfl⟩
        obtain ⟨bt, hb⟩ : ∃ bt, bt = w3.heap.size := ⟨_, rfl⟩
        have hbl : Below w3.heap.size w3 w4 := by rw [hw]; exact (Below.refl _ _).alloc (Nat.le_refl _) _
        rw [← hw, ← hb]
        have kt4 : Blk w4 bt 103 (zBc c.ln) := by rw [hw, hb]; exact Blk.new _ _ _
        have lt : wr.heap.size ≤ bt := by rw [hb]; exact hB3.size
        have hB4 := hB3.trans (hbl.mono hB3.size)
        have ks4 := Blk.below ks3 hbl (Blk.lt ks3)
        have ka4 := Blk.below ka3 hbl (Blk.lt ka3)
        have kg4 := Blk.below kg3 hbl (Blk.lt kg3)
        refine hK0 _ w4 (fun _ => ⟨⟨_, hB4⟩, rfl⟩) ?_
        clear hK0 K0 hw hb hbl
        exact HREST bs ba bg bt w4 ⟨hB4, ks4, ka4, kg4, kt4, ⟨ls, la, lg, lt⟩, nag⟩
       ·skip
        refine zAc fun K0 hK0 => ?_
        simp only [zAb, List.map_cons, List.map_nil, List.getD_cons_zero, List.getD_cons_succ]
        have hmk := zAa HMT w2
        go_wp2_with fail
        clear hmk
        obtain ⟨w3, hw⟩ : ∃ w3, w3 = w2.alloc (.cells (zBc c.ln) 103) := ⟨_, rfl⟩
        obtain ⟨bt, hb⟩ : ∃ bt, bt = w2.heap.size := ⟨_, rfl⟩
        have hbl : Below w2.heap.size w2 w3 := by rw [hw]; exact (Below.refl _ _).alloc (Nat.le_refl _) _
        rw [← hw, ← hb]
        have kt3 : Blk w3 bt 103 (zBc c.ln) := by rw [hw, hb]; exact Blk.new _ _ _
        have lt : wr.heap.size ≤ bt := by rw [hb]; exact hB2.size
        have hB3 := hB2.trans (hbl.mono hB2.size)
        have ks3 := Blk.below ks2 hbl (Blk.lt ks2)
        have ka3 := Blk.below ka2 hbl (Blk.lt ka2)
        refine hK0 _ w3 (fun _ => ⟨⟨_, hB3⟩, rfl⟩) ?_
        clear hK0 K0 hw hb hbl
        refine zAc fun K0 hK0 => ?_
        simp only [zAb, List.map_cons, List.map_nil, List.getD_cons_zero, List.getD_cons_succ]
        have hmk := zAa HMI w3
        go_wp2_with fail
        clear hmk
        obtain ⟨w4, hw⟩ : ∃ w4, w4 = w3.alloc (.cells (madeCells #[Value.int .i64 0] c.m) 3) := ⟨_, rfl⟩
        obtain ⟨bg, hb⟩ : ∃ bg, bg = w3.heap.size := ⟨_, rfl⟩
        have hbl : Below w3.heap.size w3 w4 := by rw [hw]; exact (Below.refl _ _).alloc (Nat.le_refl _) _
        rw [← hw, ← hb]
        have kg4 : IRow w4 bg (List.replicate c.m 0) [] := by rw [hw, hb]; exact zBe w3 c.m
        have lg : wr.heap.size ≤ bg := by rw [hb]; exact hB3.size
        have hB4 := hB3.trans (hbl.mono hB3.size)
        have ks4 := Blk.below ks3 hbl (Blk.lt ks3)
        have ka4 := Blk.below ka3 hbl (Blk.lt ka3)
        have kt4 := Blk.below kt3 hbl (Blk.lt kt3)
        have nag : ba ≠ bg := by have := Blk.lt ka3; omega
        refine hK0 _ w4 (fun _ => ⟨⟨_, hB4⟩, rfl⟩) ?_
        clear hK0 K0 hw hb hbl
        exact HREST bs ba bg bt w4 ⟨hB4, ks4, ka4, kg4, kt4, ⟨ls, la, lg, lt⟩, nag⟩
      ·skip
       refine zAm ?_ ?_
       ·refine zAc fun K0 hK0 => ?_
        simp only [zAb, List.map_cons, List.map_nil, List.getD_cons_zero, List.getD_cons_succ]
        have hmk := zAa HMI w1
        go_wp2_with fail
        clear hmk
        obtain ⟨w2, hw⟩ : ∃ w2, w2 = w1.alloc (.cells (madeCells #[Value.int .i64 0] c.m) 3) := ⟨_, rfl⟩
        obtain ⟨bg, hb⟩ : ∃ bg, bg = w1.heap.size := ⟨_, rfl⟩
        have hbl : Below w1.heap.size w1 w2 := by rw [hw]; exact (Below.refl _ _).alloc (Nat.le_refl _) _
        rw [← hw, ← hb]
        have kg2 : IRow w2 bg (List.replicate c.m 0) [] := by rw [hw, hb]; exact zBe w1 c.m
        have lg : wr.heap.size ≤ bg := by rw [hb]; exact hB1.size
        have hB2 := hB1.trans (hbl.mono hB1.size)
        have ks2 := Blk.below ks1 hbl (Blk.lt ks1)
        refine hK0 _ w2 (fun _ => ⟨⟨_, hB2⟩, rfl⟩) ?_
        clear hK0 K0 hw hb hbl
        refine zAm ?_ ?_
        ·refine zAc fun K0 hK0 => ?_
         simp only [zAb, List.map_cons, List.map_nil, List.getD_cons_zero, List.getD_cons_succ]
         have hmk := zAa HMI w2
         go_wp2_with fail
         clear hmk
         obtain ⟨w3, hw⟩ : ∃ w3, w3 = w2.alloc (.cells (madeCells #[Value.int .i64 0] c.m) 3) := ⟨_, rfl⟩
         obtain ⟨ba, hb⟩ : ∃ ba, ba = w2.heap.size := ⟨_, rfl⟩
         have hbl : Below w2.heap.size w2 w3 := by rw [hw]; exact (Below.refl _ _).alloc (Nat.le_refl _) _
         rw [← hw, ← hb]
         have ka3 : IRow w3 ba (List.replicate c.m 0) [] := by rw [hw, hb]; exact zBe w2 c.m
         have la : wr.heap.size ≤ ba := by rw [hb]; exact hB2.size
         have hB3 := hB2.trans (hbl.mono hB2.size)
         have ks3 := Blk.below ks2 hbl (Blk.lt ks2)
         have kg3 := Blk.below kg2 hbl (Blk.lt kg2)
         have nag : ba ≠ bg := by have := Blk.lt kg2; omega
         refine hK0 _ w3 (fun _ => ⟨⟨_, hB3⟩, rfl⟩) ?_
         clear hK0 K0 hw hb hbl
         refine zAc fun K0 hK0 => ?_
         simp only [zAb, List.map_cons, List.map_nil, List.getD_cons_zero, List.getD_cons_succ]
         have hmk := zAa HMT w3
         go_wp2_with fail
         clear hmk
         obtain ⟨w4, hw⟩ : ∃ w4, w4 = w3.alloc (.cells (zBc c.ln) 103) := ⟨_, rfl⟩
         obtain ⟨bt, hb⟩ : ∃ bt, bt = w3.heap.size := ⟨_, rfl⟩
         have hbl : Below w3.heap.size w3 w4 := by rw [hw]; exact (Below.refl _ _).alloc (Nat.le_refl _) _
         rw [← hw, ← hb]
         have kt4 : Blk w4 bt 103 (zBc c.ln) := by rw [hw, hb]; exact Blk.new _ _ _
         have lt : wr.heap.size ≤ bt := by rw [hb]; exact hB3.size
         have hB4 := hB3.trans (hbl.mono hB3.size)
         have ks4 := Blk.below ks3 hbl (Blk.lt ks3)
         have kg4 := Blk.below kg3 hbl (Blk.lt kg3)
         have ka4 := Blk.below ka3 hbl (Blk.lt ka3)
         refine hK0 _ w4 (fun _ => ⟨⟨_, hB4⟩, rfl⟩) ?_
         clear hK0 K0 hw hb hbl
         exact HREST bs ba bg bt w4 ⟨hB4, ks4, ka4, kg4, kt4, ⟨ls, la, lg, lt⟩, nag⟩
        ·skip
         refine zAc fun K0 hK0 => ?_
         simp only [zAb, List.map_cons, List.map_nil, List.getD_cons_zero, List.getD_cons_succ]
         have hmk := zAa HMT w2
         go_wp2_with fail
         clear hmk
         obtain ⟨w3, hw⟩ : ∃ w3, w3 = w2.alloc (.cells (zBc c.ln) 103) := ⟨_, rfl⟩
         obtain ⟨bt, hb⟩ : ∃ bt, bt = w2.heap.size := ⟨_, rfl⟩
         have hbl : Below w2.heap.size w2 w3 := by rw [hw]; exact (Below.refl _ _).alloc (Nat.le_refl _) _
         rw [← hw, ← hb]
         have kt3 : Blk w3 bt 103 (zBc c.ln) := by rw [hw, hb]; exact Blk.new _ _ _
         have lt : wr.heap.size ≤ bt := by rw [hb]; exact hB2.size
         have hB3 := hB2.trans (hbl.mono hB2.size)
         have ks3 := Blk.below ks2 hbl (Blk.lt ks2)
         have kg3 := Blk.below kg2 hbl (Blk.lt kg2)
         refine hK0 _ w3 (fun _ => ⟨⟨_, hB3⟩, rfl⟩) ?_
         clear hK0 K0 hw hb hbl
         refine zAc fun K0 hK0 => ?_
         simp only [zAb, List.map_cons, List.map_nil, List.getD_cons_zero, List.getD_cons_succ]
         have hmk := zAa HMI w3
         go_wp2_with fail
         clear hmk
         obtain ⟨w4, hw⟩ : ∃ w4, w4 = w3.alloc (.cells (madeCells #[Value.int .i64 0] c.m) 3) := ⟨_, rfl⟩
         obtain ⟨ba, hb⟩ : ∃ ba, ba = w3.heap.size := ⟨_, rfl⟩
         have hbl : Below w3.heap.size w3 w4 := by rw [hw]; exact (Below.refl _ _).alloc (Nat.le_refl _) _
         rw [← hw, ← hb]
         have ka4 : IRow w4 ba (List.replicate c.m 0) [] := by rw [hw, hb]; exact zBe w3 c.m
         have la : wr.heap.size ≤ ba := by rw [hb]; exact hB3.size
         have hB4 := hB3.trans (hbl.mono hB3.size)
         have ks4 := Blk.below ks3 hbl (Blk.lt ks3)
         have kg4 := Blk.below kg3 hbl (Blk.lt kg3)
         have kt4 := Blk.below kt3 hbl (Blk.lt kt3)
         have nag : ba ≠ bg := by have := Blk.lt kg3; omega
         refine hK0 _ w4 (fun _ => ⟨⟨_, hB4⟩, rfl⟩) ?_
         clear hK0 K0 hw hb hbl
         exact HREST bs ba bg bt w4 ⟨hB4, ks4, ka4, kg4, kt4, ⟨ls, la, lg, lt⟩, nag⟩
       ·skip
        refine zAc fun K0 hK0 => ?_
        simp only [zAb, List.map_cons, List.map_nil, List.getD_cons_zero, List.getD_cons_succ]
        have hmk := zAa HMT w1
        go_wp2_with fail
        clear hmk
        obtain ⟨w2, hw⟩ : ∃ w2, w2 = w1.alloc (.cells (zBc c.ln) 103) := ⟨_, rfl⟩
        obtain ⟨bt, hb⟩ : ∃ bt, bt = w1.heap.size := ⟨_, rfl⟩
        have hbl : Below w1.heap.size w1 w2 := by rw [hw]; exact (Below.refl _ _).alloc (Nat.le_refl _) _
        rw [← hw, ← hb]
        have kt2 : Blk w2 bt 103 (zBc c.ln) := by rw [hw, hb]; exact Blk.new _ _ _
        have lt : wr.heap.size ≤ bt := by rw [hb]; exact hB1.size
        have hB2 := hB1.trans (hbl.mono hB1.size)
        have ks2 := Blk.below ks1 hbl (Blk.lt ks1)
        refine hK0 _ w2 (fun _ => ⟨⟨_, hB2⟩, rfl⟩) ?_
        clear hK0 K0 hw hb hbl
        refine zAm ?_ ?_
        ·refine zAc fun K0 hK0 => ?_
         simp only [zAb, List.map_cons, List.map_nil, List.getD_cons_zero, List.getD_cons_succ]
         have hmk := zAa HMI w2
         go_wp2_with fail
         clear hmk
         obtain ⟨w3, hw⟩ : ∃ w3, w3 = w2.alloc (.cells (madeCells #[Value.int .i64 0] c.m) 3) := ⟨_, rfl⟩
         obtain ⟨ba, hb⟩ : ∃ ba, ba = w2.heap.size := ⟨_, rfl⟩
         have hbl : Below w2.heap.size w2 w3 := by rw [hw]; exact (Below.refl _ _).alloc (Nat.le_refl _) _
         rw [← hw, ← hb]
         have ka3 : IRow w3 ba (List.replicate c.m 0) [] := by rw [hw, hb]; exact zBe w2 c.m
         have la : wr.heap.size ≤ ba := by rw [hb]; exact hB2.size
         have hB3 := hB2.trans (hbl.mono hB2.size)
         have ks3 := Blk.below ks2 hbl (Blk.lt ks2)
         have kt3 := Blk.below kt2 hbl (Blk.lt kt2)
         refine hK0 _ w3 (fun _ => ⟨⟨_, hB3⟩, rfl⟩) ?_
         clear hK0 K0 hw hb hbl
         refine zAc fun K0 hK0 => ?_
         simp only [zAb, List.map_cons, List.map_nil, List.getD_cons_zero, List.getD_cons_succ]
         have hmk := zAa HMI w3
         go_wp2_with fail
         clear hmk
         obtain ⟨w4, hw⟩ : ∃ w4, w4 = w3.alloc (.cells (madeCells #[Value.int .i64 0] c.m) 3) := ⟨_, rfl⟩
         obtain ⟨bg, hb⟩ : ∃ bg, bg = w3.heap.size := ⟨_, rfl⟩
         have hbl : Below w3.heap.size w3 w4 := by rw [hw]; exact (Below.refl _ _).alloc (Nat.le_refl _) _
         rw [← hw, ← hb]
         have kg4 : IRow w4 bg (List.replicate c.m 0) [] := by rw [hw, hb]; exact zBe w3 c.m
         have lg : wr.heap.size ≤ bg := by rw [hb]; exact hB3.size
         have hB4 := hB3.trans (hbl.mono hB3.size)
         have ks4 := Blk.below ks3 hbl (Blk.lt ks3)
         have kt4 := Blk.below kt3 hbl (Blk.lt kt3)
         have ka4 := Blk.below ka3 hbl (Blk.lt ka3)
         have nag : ba ≠ bg := by have := Blk.lt ka3; omega
         refine hK0 _ w4 (fun _ => ⟨⟨_, hB4⟩, rfl⟩) ?_
         clear hK0 K0 hw hb hbl
         exact HREST bs ba bg bt w4 ⟨hB4, ks4, ka4, kg4, kt4, ⟨ls, la, lg, lt⟩, nag⟩
        ·skip
         refine zAc fun K0 hK0 => ?_
         simp only [zAb, List.map_cons, List.map_nil, List.getD_cons_zero, List.getD_cons_succ]
         have hmk := zAa HMI w2
         go_wp2_with fail
         clear hmk
         obtain ⟨w3, hw⟩ : ∃ w3, w3 = w2.alloc (.cells (madeCells #[Value.int .i64 0] c.m) 3) := ⟨_, rfl⟩
         obtain ⟨bg, hb⟩ : ∃ bg, bg = w2.heap.size := ⟨_, rfl⟩
         have hbl : Below w2.heap.size w2 w3 := by rw [hw]; exact (Below.refl _ _).alloc (Nat.le_refl _) _
         rw [← hw, ← hb]
         have kg3 : IRow w3 bg (List.replicate c.m 0) [] := by rw [hw, hb]; exact zBe w2 c.m
         have lg : wr.heap.size ≤ bg := by rw [hb]; exact hB2.size
         have hB3 := hB2.trans (hbl.mono hB2.size)
         have ks3 := Blk.below ks2 hbl (Blk.lt ks2)
         have kt3 := Blk.below kt2 hbl (Blk.lt kt2)
         refine hK0 _ w3 (fun _ => ⟨⟨_, hB3⟩, rfl⟩) ?_
         clear hK0 K0 hw hb hbl
         refine zAc fun K0 hK0 => ?_
         simp only [zAb, List.map_cons, List.map_nil, List.getD_cons_zero, List.getD_cons_succ]
         have hmk := zAa HMI w3
         go_wp2_with fail
         clear hmk
         obtain ⟨w4, hw⟩ : ∃ w4, w4 = w3.alloc (.cells (madeCells #[Value.int .i64 0] c.m) 3) := ⟨_, rfl⟩
         obtain ⟨ba, hb⟩ : ∃ ba, ba = w3.heap.size := ⟨_, rfl⟩
         have hbl : Below w3.heap.size w3 w4 := by rw [hw]; exact (Below.refl _ _).alloc (Nat.le_refl _) _
         rw [← hw, ← hb]
         have ka4 : IRow w4 ba (List.replicate c.m 0) [] := by rw [hw, hb]; exact zBe w3 c.m
         have la : wr.heap.size ≤ ba := by rw [hb]; exact hB3.size
         have hB4 := hB3.trans (hbl.mono hB3.size)
         have ks4 := Blk.below ks3 hbl (Blk.lt ks3)
         have kt4 := Blk.below kt3 hbl (Blk.lt kt3)
         have kg4 := Blk.below kg3 hbl (Blk.lt kg3)
         have nag : ba ≠ bg := by have := Blk.lt kg3; omega
         refine hK0 _ w4 (fun _ => ⟨⟨_, hB4⟩, rfl⟩) ?_
         clear hK0 K0 hw hb hbl
         exact HREST bs ba bg bt w4 ⟨hB4, ks4, ka4, kg4, kt4, ⟨ls, la, lg, lt⟩, nag⟩
     ·skip
      refine zAm ?_ ?_
      ·refine zAc fun K0 hK0 => ?_
       simp only [zAb, List.map_cons, List.map_nil, List.getD_cons_zero, List.getD_cons_succ]
       have hmk := zAa HMI wd
       go_wp2_with fail
       clear hmk
       obtain ⟨w1, hw⟩ : ∃ w1, w1 = wd.alloc (.cells (madeCells #[Value.int .i64 0] c.m) 3) := ⟨_, rfl⟩
       obtain ⟨ba, hb⟩ : ∃ ba, ba = wd.heap.size := ⟨_, rfl⟩
       have hbl : Below wd.heap.size wd w1 := by rw [hw]; exact (Below.refl _ _).alloc (Nat.le_refl _) _
       rw [← hw, ← hb]
       have ka1 : IRow w1 ba (List.replicate c.m 0) [] := by rw [hw, hb]; exact zBe wd c.m
       have la : wr.heap.size ≤ ba := by rw [hb]; exact hB0.size
       have hB1 := hB0.trans (hbl.mono hB0.size)
       refine hK0 _ w1 (fun _ => ⟨⟨_, hB1⟩, rfl⟩) ?_
       clear hK0 K0 hw hb hbl
       refine zAm ?_ ?_
       ·refine zAc fun K0 hK0 => ?_
        simp only [zAb, List.map_cons, List.map_nil, List.getD_cons_zero, List.getD_cons_succ]
        have hmk := zAa HMS w1
        go_wp2_with fail
        clear hmk
        obtain ⟨w2, hw⟩ : ∃ w2, w2 = w1.alloc (.cells (zBz c.m) 84) := ⟨_, rfl⟩
        obtain ⟨bs, hb⟩ : ∃ bs, bs = w1.heap.size := ⟨_, rfl⟩
        have hbl : Below w1.heap.size w1 w2 := by rw [hw]; exact (Below.refl _ _).alloc (Nat.le_refl _) _
        rw [← hw, ← hb]
        have ks2 : Blk w2 bs 84 (zBz c.m) := by rw [hw, hb]; exact Blk.new _ _ _
        have ls : wr.heap.size ≤ bs := by rw [hb]; exact hB1.size
        have hB2 := hB1.trans (hbl.mono hB1.size)
        have ka2 := Blk.below ka1 hbl (Blk.lt ka1)
        refine hK0 _ w2 (fun _ => ⟨⟨_, hB2⟩, rfl⟩) ?_
        clear hK0 K0 hw hb hbl
        refine zAm ?_ ?_
        ·refine zAc fun K0 hK0 => ?_
         simp only [zAb, List.map_cons, List.map_nil, List.getD_cons_zero, List.getD_cons_succ]
         have hmk := zAa HMI w2
         go_wp2_with fail
         clear hmk
         obtain ⟨w3, hw⟩ : ∃ w3, w3 = w2.alloc (.cells (madeCells #[Value.int .i64 0] c.m) 3) := ⟨_, rfl⟩
         obtain ⟨bg, hb⟩ : ∃ bg, bg = w2.heap.size := ⟨_, rfl⟩
         have hbl : Below w2.heap.size w2 w3 := by rw [hw]; exact (Below.refl _ _).alloc (Nat.le_refl _) _
         rw [← hw, ← hb]
         have kg3 : IRow w3 bg (List.replicate c.m 0) [] := by rw [hw, hb]; exact zBe w2 c.m
         have lg : wr.heap.size ≤ bg := by rw [hb]; exact hB2.size
         have hB3 := hB2.trans (hbl.mono hB2.size)
         have ka3 := Blk.below ka2 hbl (Blk.lt ka2)
         have ks3 := Blk.below ks2 hbl (Blk.lt ks2)
         have nag : ba ≠ bg := by have := Blk.lt ka2; omega
         refine hK0 _ w3 (fun _ => ⟨⟨_, hB3⟩, rfl⟩) ?_
         clear hK0 K0 hw hb hbl
         refine zAc fun K0 hK0 => ?_
         simp only [zAb, List.map_cons, List.map_nil, List.getD_cons_zero, List.getD_cons_succ]
         have hmk := zAa HMT w3
         go_wp2_with fail
         clear hmk
         obtain ⟨w4, hw⟩ : ∃ w4, w4 = w3.alloc (.cells (zBc c.ln) 103) := ⟨_, rfl⟩
         obtain ⟨bt, hb⟩ : ∃ bt, bt = w3.heap.size := ⟨_, rfl⟩
         have hbl : Below w3.heap.size w3 w4 := by rw [hw]; exact (Below.refl _ _).alloc (Nat.le_refl _) _
         rw [← hw, ← hb]
         have kt4 : Blk w4 bt 103 (zBc c.ln) := by rw [hw, hb]; exact Blk.new _ _ _
         have lt : wr.heap.size ≤ bt := by rw [hb]; exact hB3.size
         have hB4 := hB3.trans (hbl.mono hB3.size)
         have ka4 := Blk.below ka3 hbl (Blk.lt ka3)
         have ks4 := Blk.below ks3 hbl (Blk.lt ks3)
         have kg4 := Blk.below kg3 hbl (Blk.lt kg3)
         refine hK0 _ w4 (fun _ => ⟨⟨_, hB4⟩, rfl⟩) ?_
         clear hK0 K0 hw hb hbl
         exact HREST bs ba bg bt w4 ⟨hB4, ks4, ka4, kg4, kt4, ⟨ls, la, lg, lt⟩, nag⟩
        ·skip
         refine zAc fun K0 hK0 => ?_
         simp only [zAb, List.map_cons, List.map_nil, List.getD_cons_zero, List.getD_cons_succ]
         have hmk := zAa HMT w2
         go_wp2_with fail
         clear hmk
         obtain ⟨w3, hw⟩ : ∃ w3, w3 = w2.alloc (.cells (zBc c.ln) 103) := ⟨_, rfl⟩
         obtain ⟨bt, hb⟩ : ∃ bt, bt = w2.heap.size := ⟨_, rfl⟩
         have hbl : Below w2.heap.size w2 w3 := by rw [hw]; exact (Below.refl _ _).alloc (Nat.le_refl _) _
         rw [← hw, ← hb]
         have kt3 : Blk w3 bt 103 (zBc c.ln) := by rw [hw, hb]; exact Blk.new _ _ _
         have lt : wr.heap.size ≤ bt := by rw [hb]; exact hB2.size
         have hB3 := hB2.trans (hbl.mono hB2.size)
         have ka3 := Blk.below ka2 hbl (Blk.lt ka2)
         have ks3 := Blk.below ks2 hbl (Blk.lt ks2)
         refine hK0 _ w3 (fun _ => ⟨⟨_, hB3⟩, rfl⟩) ?_
         clear hK0 K0 hw hb hbl
         refine zAc fun K0 hK0 => ?_
         simp only [zAb, List.map_cons, List.map_nil, List.getD_cons_zero, List.getD_cons_succ]
         have hmk := zAa HMI w3
         go_wp2_with fail
         clear hmk
         obtain ⟨w4, hw⟩ : ∃ w4, w4 = w3.alloc (.cells (madeCells #[Value.int .i64 0] c.m) 3) := ⟨_, rfl⟩
         obtain ⟨bg, hb⟩ : ∃ bg, bg = w3.heap.size := ⟨_, rfl⟩
         have hbl : Below w3.heap.size w3 w4 := by rw [hw]; exact (Below.refl _ _).alloc (Nat.le_refl _) _
         rw [← hw, ← hb]
         have kg4 : IRow w4 bg (List.replicate c.m 0) [] := by rw [hw, hb]; exact zBe w3 c.m
         have lg : wr.heap.size ≤ bg := by rw [hb]; exact hB3.size
         have hB4 := hB3.trans (hbl.mono hB3.size)
         have ka4 := Blk.below ka3 hbl (Blk.lt ka3)
         have ks4 := Blk.below ks3 hbl (Blk.lt ks3)
         have kt4 := Blk.below kt3 hbl (Blk.lt kt3)
         have nag : ba ≠ bg := by have := Blk.lt ka3; omega
         refine hK0 _ w4 (fun _ => ⟨⟨_, hB4⟩, rfl⟩) ?_
         clear hK0 K0 hw hb hbl
         exact HREST bs ba bg bt w4 ⟨hB4, ks4, ka4, kg4, kt4, ⟨ls, la, lg, lt⟩, nag⟩
       ·skip
        refine zAm ?_ ?_
        ·refine zAc fun K0 hK0 => ?_
         simp only [zAb, List.map_cons, List.map_nil, List.getD_cons_zero, List.getD_cons_succ]
         have hmk := zAa HMI w1
         go_wp2_with fail
         clear hmk
         obtain ⟨w2, hw⟩ : ∃ w2, w2 = w1.alloc (.cells (madeCells #[Value.int .i64 0] c.m) 3) := ⟨_, rfl⟩
         obtain ⟨bg, hb⟩ : ∃ bg, bg = w1.heap.size := ⟨_, rfl⟩
         have hbl : Below w1.heap.size w1 w2 := by rw [hw]; exact (Below.refl _ _).alloc (Nat.le_refl _) _
         rw [← hw, ← hb]
         have kg2 : IRow w2 bg (List.replicate c.m 0) [] := by rw [hw, hb]; exact zBe w1 c.m
         have lg : wr.heap.size ≤ bg := by rw [hb]; exact hB1.size
         have hB2 := hB1.trans (hbl.mono hB1.size)
         have ka2 := Blk.below ka1 hbl (Blk.lt ka1)
         have nag : ba ≠ bg := by have := Blk.lt ka1; omega
         refine hK0 _ w2 (fun _ => ⟨⟨_, hB2⟩, rfl⟩) ?_
         clear hK0 K0 hw hb hbl
         refine zAm ?_ ?_
         ·refine zAc fun K0 hK0 => ?_
          simp only [zAb, List.map_cons, List.map_nil, List.getD_cons_zero, List.getD_cons_succ]
          have hmk := zAa HMS w2
          go_wp2_with fail
          clear hmk
          obtain ⟨w3, hw⟩ : ∃ w3, w3 = w2.alloc (.cells (zBz c.m) 84) := ⟨_, rfl⟩
          obtain ⟨bs, hb⟩ : ∃ bs, bs = w2.heap.size := ⟨_, rfl⟩
          have hbl : Below w2.heap.size w2 w3 := by rw [hw]; exact (Below.refl _ _).alloc (Nat.le_refl _) _
          rw [← hw, ← hb]
          have ks3 : Blk w3 bs 84 (zBz c.m) := by rw [hw, hb]; exact Blk.new _ _ _
          have ls : wr.heap.size ≤ bs := by rw [hb]; exact hB2.size
          have hB3 := hB2.trans (hbl.mono hB2.size)
          have ka3 := Blk.below ka2 hbl (Blk.lt ka2)
          have kg3 := Blk.below kg2 hbl (Blk.lt kg2)
          refine hK0 _ w3 (fun _ => ⟨⟨_, hB3⟩, rfl⟩) ?_
          clear hK0 K0 hw hb hbl
          refine zAc fun K0 hK0 => ?_
          simp only [zAb, List.map_cons, List.map_nil, List.getD_cons_zero, List.getD_cons_succ]
          have hmk := zAa HMT w3
          go_wp2_with fail
          clear hmk
          obtain ⟨w4, hw⟩ : ∃ w4, w4 = w3.alloc (.cells (zBc c.ln) 103) := ⟨_, rfl⟩
          obtain ⟨bt, hb⟩ : ∃ bt, bt = w3.heap.size := ⟨_, rfl⟩
          have hbl : Below w3.heap.size w3 w4 := by rw [hw]; exact (Below.refl _ _).alloc (Nat.le_refl _) _
          rw [← hw, ← hb]
          have kt4 : Blk w4 bt 103 (zBc c.ln) := by rw [hw, hb]; exact Blk.new _ _ _
          have lt : wr.heap.size ≤ bt := by rw [hb]; exact hB3.size
          have hB4 := hB3.trans (hbl.mono hB3.size)
          have ka4 := Blk.below ka3 hbl (Blk.lt ka3)
          have kg4 := Blk.below kg3 hbl (Blk.lt kg3)
          have ks4 := Blk.below ks3 hbl (Blk.lt ks3)
          refine hK0 _ w4 (fun _ => ⟨⟨_, hB4⟩, rfl⟩) ?_
          clear hK0 K0 hw hb hbl
          exact HREST bs ba bg bt w4 ⟨hB4, ks4, ka4, kg4, kt4, ⟨ls, la, lg, lt⟩, nag⟩
         ·skip
          refine zAc fun K0 hK0 => ?_
          simp only [zAb, List.map_cons, List.map_nil, List.getD_cons_zero, List.getD_cons_succ]
          have hmk := zAa HMT w2
          go_wp2_with fail
          clear hmk
          obtain ⟨w3, hw⟩ : ∃ w3, w3 = w2.alloc (.cells (zBc c.ln) 103) := ⟨_, rfl⟩
          obtain ⟨bt, hb⟩ : ∃ bt, bt = w2.heap.size := ⟨_, rfl⟩
          have hbl : Below w2.heap.size w2 w3 := by rw [hw]; exact (Below.refl _ _).alloc (Nat.le_refl _) _
          rw [← hw, ← hb]
          have kt3 : Blk w3 bt 103 (zBc c.ln) := by rw [hw, hb]; exact Blk.new _ _ _
          have lt : wr.heap.size ≤ bt := by rw [hb]; exact hB2.size
          have hB3 := hB2.trans (hbl.mono hB2.size)
          have ka3 := Blk.below ka2 hbl (Blk.lt ka2)
          have kg3 := Blk.below kg2 hbl (Blk.lt kg2)
          refine hK0 _ w3 (fun _ => ⟨⟨_, hB3⟩, rfl⟩) ?_
          clear hK0 K0 hw hb hbl
          refine zAc fun K0 hK0 => ?_
          simp only [zAb, List.map_cons, List.map_nil, List.getD_cons_zero, List.getD_cons_succ]
          have hmk := zAa HMS w3
          go_wp2_with fail
          clear hmk
          obtain ⟨w4, hw⟩ : ∃ w4, w4 = w3.alloc (.cells (zBz c.m) 84) := ⟨_, rfl⟩
          obtain ⟨bs, hb⟩ : ∃ bs, bs = w3.heap.size := ⟨_, rfl⟩
          have hbl : Below w3.heap.size w3 w4 := by rw [hw]; exact (Below.refl _ _).alloc (Nat.le_refl _) _
          rw [← hw, ← hb]
          have ks4 : Blk w4 bs 84 (zBz c.m) := by rw [hw, hb]; exact Blk.new _ _ _
          have ls : wr.heap.size ≤ bs := by rw [hb]; exact hB3.size
          have hB4 := hB3.trans (hbl.mono hB3.size)
          have ka4 := Blk.below ka3 hbl (Blk.lt ka3)
          have kg4 := Blk.below kg3 hbl (Blk.lt kg3)
          have kt4 := Blk.below kt3 hbl (Blk.lt kt3)
          refine hK0 _ w4 (fun _ => ⟨⟨_, hB4⟩, rfl⟩) ?_
          clear hK0 K0 hw hb hbl
          exact HREST bs ba bg bt w4 ⟨hB4, ks4, ka4, kg4, kt4, ⟨ls, la, lg, lt⟩, nag⟩
        ·skip
         refine zAc fun K0 hK0 => ?_
         simp only [zAb, List.map_cons, List.map_nil, List.getD_cons_zero, List.getD_cons_succ]
         have hmk := zAa HMT w1
         go_wp2_with fail
         clear hmk
         obtain ⟨w2, hw⟩ : ∃ w2, w2 = w1.alloc (.cells (zBc c.ln) 103) := ⟨_, rfl⟩
         obtain ⟨bt, hb⟩ : ∃ bt, bt = w1.heap.size := ⟨_, rfl⟩
         have hbl : Below w1.heap.size w1 w2 := by rw [hw]; exact (Below.refl _ _).alloc (Nat.le_refl _) _
         rw [← hw, ← hb]
         have kt2 : Blk w2 bt 103 (zBc c.ln) := by rw [hw, hb]; exact Blk.new _ _ _
         have lt : wr.heap.size ≤ bt := by rw [hb]; exact hB1.size
         have hB2 := hB1.trans (hbl.mono hB1.size)
         have ka2 := Blk.below ka1 hbl (Blk.lt ka1)
         refine hK0 _ w2 (fun _ => ⟨⟨_, hB2⟩, rfl⟩) ?_
         clear hK0 K0 hw hb hbl
         refine zAm ?_ ?_
         ·refine zAc fun K0 hK0 => ?_
          simp only [zAb, List.map_cons, List.map_nil, List.getD_cons_zero, List.getD_cons_succ]
          have hmk := zAa HMS w2
          go_wp2_with fail
          clear hmk
          obtain ⟨w3, hw⟩ : ∃ w3, w3 = w2.alloc (.cells (zBz c.m) 84) := ⟨_, rfl⟩
          obtain ⟨bs, hb⟩ : ∃ bs, bs = w2.heap.size := ⟨_, rfl⟩
          have hbl : Below w2.heap.size w2 w3 := by rw [hw]; exact (Below.refl _ _).alloc (Nat.le_refl _) _
          rw [← hw, ← hb]
          have ks3 : Blk w3 bs 84 (zBz c.m) := by rw [hw, hb]; exact Blk.new _ _ _
          have ls : wr.heap.size ≤ bs := by rw [hb]; exact hB2.size
          have hB3 := hB2.trans (hbl.mono hB2.size)
          have ka3 := Blk.below ka2 hbl (Blk.lt ka2)
          have kt3 := Blk.below kt2 hbl (Blk.lt kt2)
          refine hK0 _ w3 (fun _ => ⟨⟨_, hB3⟩, rfl⟩) ?_
          clear hK0 K0 hw hb hbl
          refine zAc fun K0 hK0 => ?_
          simp only [zAb, List.map_cons, List.map_nil, List.getD_cons_zero, List.getD_cons_succ]
          have hmk := zAa HMI w3
          go_wp2_with fail
          clear hmk
          obtain ⟨w4, hw⟩ : ∃ w4, w4 = w3.alloc (.cells (madeCells #[Value.int .i64 0] c.m) 3) := ⟨_, rfl⟩
          obtain ⟨bg, hb⟩ : ∃ bg, bg = w3.heap.size := ⟨_, rfl⟩
          have hbl : Below w3.heap.size w3 w4 := by rw [hw]; exact (Below.refl _ _).alloc (Nat.le_refl _) _
          rw [← hw, ← hb]
          have kg4 : IRow w4 bg (List.replicate c.m 0) [] := by rw [hw, hb]; exact zBe w3 c.m
          have lg : wr.heap.size ≤ bg := by rw [hb]; exact hB3.size
          have hB4 := hB3.trans (hbl.mono hB3.size)
          have ka4 := Blk.below ka3 hbl (Blk.lt ka3)
          have kt4 := Blk.below kt3 hbl (Blk.lt kt3)
          have ks4 := Blk.below ks3 hbl (Blk.lt ks3)
          have nag : ba ≠ bg := by have := Blk.lt ka3; omega
          refine hK0 _ w4 (fun _ => ⟨⟨_, hB4⟩, rfl⟩) ?_
          clear hK0 K0 hw hb hbl
          exact HREST bs ba bg bt w4 ⟨hB4, ks4, ka4, kg4, kt4, ⟨ls, la, lg, lt⟩, nag⟩
         ·skip
          refine zAc fun K0 hK0 => ?_
          simp only [zAb, List.map_cons, List.map_nil, List.getD_cons_zero, List.getD_cons_succ]
          have hmk := zAa HMI w2
          go_wp2_with fail
          clear hmk
          obtain ⟨w3, hw⟩ : ∃ w3, w3 = w2.alloc (.cells (madeCells #[Value.int .i64 0] c.m) 3) := ⟨_, rfl⟩
          obtain ⟨bg, hb⟩ : ∃ bg, bg = w2.heap.size := ⟨_, rfl⟩
          have hbl : Below w2.heap.size w2 w3 := by rw [hw]; exact (Below.refl _ _).alloc (Nat.le_refl _) _
          rw [← hw, ← hb]
          have kg3 : IRow w3 bg (List.replicate c.m 0) [] := by rw [hw, hb]; exact zBe w2 c.m
          have lg : wr.heap.size ≤ bg := by rw [hb]; exact hB2.size
          have hB3 := hB2.trans (hbl.mono hB2.size)
          have ka3 := Blk.below ka2 hbl (Blk.lt ka2)
          have kt3 := Blk.below kt2 hbl (Blk.lt kt2)
          have nag : ba ≠ bg := by have := Blk.lt ka2; omega
          refine hK0 _ w3 (fun _ => ⟨⟨_, hB3⟩, rfl⟩) ?_
          clear hK0 K0 hw hb hbl
          refine zAc fun K0 hK0 => ?_
          simp only [zAb, List.map_cons, List.map_nil, List.getD_cons_zero, List.getD_cons_succ]
          have hmk := zAa HMS w3
          go_wp2_with fail
          clear hmk
          obtain ⟨w4, hw⟩ : ∃ w4, w4 = w3.alloc (.cells (zBz c.m) 84) := ⟨_, rfl⟩
          obtain ⟨bs, hb⟩ : ∃ bs, bs = w3.heap.size := ⟨_, rfl⟩
          have hbl : Below w3.heap.size w3 w4 := by rw [hw]; exact (Below.refl _ _).alloc (Nat.le_refl _) _
          rw [← hw, ← hb]
          have ks4 : Blk w4 bs 84 (zBz c.m) := by rw [hw, hb]; exact Blk.new _ _ _
          have ls : wr.heap.size ≤ bs := by rw [hb]; exact hB3.size
          have hB4 := hB3.trans (hbl.mono hB3.size)
          have ka4 := Blk.below ka3 hbl (Blk.lt ka3)
          have kt4 := Blk.below kt3 hbl (Blk.lt kt3)
          have kg4 := Blk.below kg3 hbl (Blk.lt kg3)
          refine hK0 _ w4 (fun _ => ⟨⟨_, hB4⟩, rfl⟩) ?_
          clear hK0 K0 hw hb hbl
          exact HREST bs ba bg bt w4 ⟨hB4, ks4, ka4, kg4, kt4, ⟨ls, la, lg, lt⟩, nag⟩
      ·skip
       refine zAm ?_ ?_
       ·refine zAc fun K0 hK0 => ?_
        simp only [zAb, List.map_cons, List.map_nil, List.getD_cons_zero, List.getD_cons_succ]
        have hmk := zAa HMI wd
        go_wp2_with fail
        clear hmk
        obtain ⟨w1, hw⟩ : ∃ w1, w1 = wd.alloc (.cells (madeCells #[Value.int .i64 0] c.m) 3) := ⟨_, rfl⟩
        obtain ⟨bg, hb⟩ : ∃ bg, bg = wd.heap.size := ⟨_, rfl⟩
        have hbl : Below wd.heap.size wd w1 := by rw [hw]; exact (Below.refl _ _).alloc (Nat.le_refl _) _
        rw [← hw, ← hb]
        have kg1 : IRow w1 bg (List.replicate c.m 0) [] := by rw [hw, hb]; exact zBe wd c.m
        have lg : wr.heap.size ≤ bg := by rw [hb]; exact hB0.size
        have hB1 := hB0.trans (hbl.mono hB0.size)
        refine hK0 _ w1 (fun _ => ⟨⟨_, hB1⟩, rfl⟩) ?_
        clear hK0 K0 hw hb hbl
        refine zAm ?_ ?_
        ·refine zAc fun K0 hK0 => ?_
         simp only [zAb, List.map_cons, List.map_nil, List.getD_cons_zero, List.getD_cons_succ]
         have hmk := zAa HMS w1
         go_wp2_with fail
         clear hmk
         obtain ⟨w2, hw⟩ : ∃ w2, w2 = w1.alloc (.cells (zBz c.m) 84) := ⟨_, rfl⟩
         obtain ⟨bs, hb⟩ : ∃ bs, bs = w1.heap.size := ⟨_, rfl⟩
         have hbl : Below w1.heap.size w1 w2 := by rw [hw]; exact (Below.refl _ _).alloc (Nat.le_refl _) _
         rw [← hw, ← hb]
         have ks2 : Blk w2 bs 84 (zBz c.m) := by rw [hw, hb]; exact Blk.new _ _ _
         have ls : wr.heap.size ≤ bs := by rw [hb]; exact hB1.size
         have hB2 := hB1.trans (hbl.mono hB1.size)
         have kg2 := Blk.below kg1 hbl (Blk.lt kg1)
         refine hK0 _ w2 (fun _ => ⟨⟨_, hB2⟩, rfl⟩) ?_
         clear hK0 K0 hw hb hbl
         refine zAm ?_ ?_
         ·refine zAc fun K0 hK0 => ?_
          simp only [zAb, List.map_cons, List.map_nil, List.getD_cons_zero, List.getD_cons_succ]
          have hmk := zAa HMI w2
          go_wp2_with fail
          clear hmk
          obtain ⟨w3, hw⟩ : ∃ w3, w3 = w2.alloc (.cells (madeCells #[Value.int .i64 0] c.m) 3) := ⟨_, rfl⟩
          obtain ⟨ba, hb⟩ : ∃ ba, ba = w2.heap.size := ⟨_, rfl⟩
          have hbl : Below w2.heap.size w2 w3 := by rw [hw]; exact (Below.refl _ _).alloc (Nat.le_refl _) _
          rw [← hw, ← hb]
          have ka3 : IRow w3 ba (List.replicate c.m 0) [] := by rw [hw, hb]; exact zBe w2 c.m
          have la : wr.heap.size ≤ ba := by rw [hb]; exact hB2.size
          have hB3 := hB2.trans (hbl.mono hB2.size)
          have kg3 := Blk.below kg2 hbl (Blk.lt kg2)
          have ks3 := Blk.below ks2 hbl (Blk.lt ks2)
          have nag : ba ≠ bg := by have := Blk.lt kg2; omega
          refine hK0 _ w3 (fun _ => ⟨⟨_, hB3⟩, rfl⟩) ?_
          clear hK0 K0 hw hb hbl
          refine zAc fun K0 hK0 => ?_
          simp only [zAb, List.map_cons, List.map_nil, List.getD_cons_zero, List.getD_cons_succ]
          have hmk := zAa HMT w3
          go_wp2_with fail
          clear hmk
          obtain ⟨w4, hw⟩ : ∃ w4, w4 = w3.alloc (.cells (zBc c.ln) 103) := ⟨_, rfl⟩
          obtain ⟨bt, hb⟩ : ∃ bt, bt = w3.heap.size := ⟨_, rfl⟩
          have hbl : Below w3.heap.size w3 w4 := by rw [hw]; exact (Below.refl _ _).alloc (Nat.le_refl _) _
          rw [← hw, ← hb]
          have kt4 : Blk w4 bt 103 (zBc c.ln) := by rw [hw, hb]; exact Blk.new _ _ _
          have lt : wr.heap.size ≤ bt := by rw [hb]; exact hB3.size
          have hB4 := hB3.trans (hbl.mono hB3.size)
          have kg4 := Blk.below kg3 hbl (Blk.lt kg3)
          have ks4 := Blk.below ks3 hbl (Blk.lt ks3)
          have ka4 := Blk.below ka3 hbl (Blk.lt ka3)
          refine hK0 _ w4 (fun _ => ⟨⟨_, hB4⟩, rfl⟩) ?_
          clear hK0 K0 hw hb hbl
          exact HREST bs ba bg bt w4 ⟨hB4, ks4, ka4, kg4, kt4, ⟨ls, la, lg, lt⟩, nag⟩
         ·skip
          refine zAc fun K0 hK0 => ?_
          simp only [zAb, List.map_cons, List.map_nil, List.getD_cons_zero, List.getD_cons_succ]
          have hmk := zAa HMT w2
          go_wp2_with fail
          clear hmk
          obtain ⟨w3, hw⟩ : ∃ w3, w3 = w2.alloc (.cells (zBc c.ln) 103) := ⟨_, rfl⟩
          obtain ⟨bt, hb⟩ : ∃ bt, bt = w2.heap.size := ⟨_, rfl⟩
          have hbl : Below w2.heap.size w2 w3 := by rw [hw]; exact (Below.refl _ _).alloc (Nat.le_refl _) _
          rw [← hw, ← hb]
          have kt3 : Blk w3 bt 103 (zBc c.ln) := by rw [hw, hb]; exact Blk.new _ _ _
          have lt : wr.heap.size ≤ bt := by rw [hb]; exact hB2.size
          have hB3 := hB2.trans (hbl.mono hB2.size)
          have kg3 := Blk.below kg2 hbl (Blk.lt kg2)
          have ks3 := Blk.below ks2 hbl (Blk.lt ks2)
          refine hK0 _ w3 (fun _ => ⟨⟨_, hB3⟩, rfl⟩) ?_
          clear hK0 K0 hw hb hbl
          refine zAc fun K0 hK0 => ?_
          simp only [zAb, List.map_cons, List.map_nil, List.getD_cons_zero, List.getD_cons_succ]
          have hmk := zAa HMI w3
          go_wp2_with fail
          clear hmk
          obtain ⟨w4, hw⟩ : ∃ w4, w4 = w3.alloc (.cells (madeCells #[Value.int .i64 0] c.m) 3) := ⟨_, rfl⟩
          obtain ⟨ba, hb⟩ : ∃ ba, ba = w3.heap.size := ⟨_, rfl⟩
          have hbl : Below w3.heap.size w3 w4 := by rw [hw]; exact (Below.refl _ _).alloc (Nat.le_refl _) _
          rw [← hw, ← hb]
          have ka4 : IRow w4 ba (List.replicate c.m 0) [] := by rw [hw, hb]; exact zBe w3 c.m
          have la : wr.heap.size ≤ ba := by rw [hb]; exact hB3.size
          have hB4 := hB3.trans (hbl.mono hB3.size)
          have kg4 := Blk.below kg3 hbl (Blk.lt kg3)
          have ks4 := Blk.below ks3 hbl (Blk.lt ks3)
          have kt4 := Blk.below kt3 hbl (Blk.lt kt3)
          have nag : ba ≠ bg := by have := Blk.lt kg3; omega
          refine hK0 _ w4 (fun _ => ⟨⟨_, hB4⟩, rfl⟩) ?_
          clear hK0 K0 hw hb hbl
          exact HREST bs ba bg bt w4 ⟨hB4, ks4, ka4, kg4, kt4, ⟨ls, la, lg, lt⟩, nag⟩
        ·skip
         refine zAm ?_ ?_
         ·refine zAc fun K0 hK0 => ?_
          simp only [zAb, List.map_cons, List.map_nil, List.getD_cons_zero, List.getD_cons_succ]
          have hmk := zAa HMI w1
          go_wp2_with fail
          clear hmk
          obtain ⟨w2, hw⟩ : ∃ w2, w2 = w1.alloc (.cells (madeCells #[Value.int .i64 0] c.m) 3) := ⟨_, rfl⟩
          obtain ⟨ba, hb⟩ : ∃ ba, ba = w1.heap.size := ⟨_, rfl⟩
          have hbl : Below w1.heap.size w1 w2 := by rw [hw]; exact (Below.refl _ _).alloc (Nat.le_refl _) _
          rw [← hw, ← hb]
          have ka2 : IRow w2 ba (List.replicate c.m 0) [] := by rw [hw, hb]; exact zBe w1 c.m
          have la : wr.heap.size ≤ ba := by rw [hb]; exact hB1.size
          have hB2 := hB1.trans (hbl.mono hB1.size)
          have kg2 := Blk.below kg1 hbl (Blk.lt kg1)
          have nag : ba ≠ bg := by have := Blk.lt kg1; omega
          refine hK0 _ w2 (fun _ => ⟨⟨_, hB2⟩, rfl⟩) ?_
          clear hK0 K0 hw hb hbl
          refine zAm ?_ ?_
          ·refine zAc fun K0 hK0 => ?_
           simp only [zAb, List.map_cons, List.map_nil, List.getD_cons_zero, List.getD_cons_succ]
           have hmk := zAa HMS w2
           go_wp2_with fail
           clear hmk
           obtain ⟨w3, hw⟩ : ∃ w3, w3 = w2.alloc (.cells (zBz c.m) 84) := ⟨_, rfl⟩
           obtain ⟨bs, hb⟩ : ∃ bs, bs = w2.heap.size := ⟨_, rfl⟩
           have hbl : Below w2.heap.size w2 w3 := by rw [hw]; exact (Below.refl _ _).alloc (Nat.le_refl _) _
           rw [← hw, ← hb]
           have ks3 : Blk w3 bs 84 (zBz c.m) := by rw [hw, hb]; exact Blk.new _ _ _
           have ls : wr.heap.size ≤ bs := by rw [hb]; exact hB2.size
           have hB3 := hB2.trans (hbl.mono hB2.size)
           have kg3 := Blk.below kg2 hbl (Blk.lt kg2)
           have ka3 := Blk.below ka2 hbl (Blk.lt ka2)
           refine hK0 _ w3 (fun _ => ⟨⟨_, hB3⟩, rfl⟩) ?_
           clear hK0 K0 hw hb hbl
           refine zAc fun K0 hK0 => ?_
           simp only [zAb, List.map_cons, List.map_nil, List.getD_cons_zero, List.getD_cons_succ]
           have hmk := zAa HMT w3
           go_wp2_with fail
           clear hmk
           obtain ⟨w4, hw⟩ : ∃ w4, w4 = w3.alloc (.cells (zBc c.ln) 103) := ⟨_, rfl⟩
           obtain ⟨bt, hb⟩ : ∃ bt, bt = w3.heap.size := ⟨_, rfl⟩
           have hbl : Below w3.heap.size w3 w4 := by rw [hw]; exact (Below.refl _ _).alloc (Nat.le_refl _) _
           rw [← hw, ← hb]
           have kt4 : Blk w4 bt 103 (zBc c.ln) := by rw [hw, hb]; exact Blk.new _ _ _
           have lt : wr.heap.size ≤ bt := by rw [hb]; exact hB3.size
           have hB4 := hB3.trans (hbl.mono hB3.size)
           have kg4 := Blk.below kg3 hbl (Blk.lt kg3)
           have ka4 := Blk.below ka3 hbl (Blk.lt ka3)
           have ks4 := Blk.below ks3 hbl (Blk.lt ks3)
           refine hK0 _ w4 (fun _ => ⟨⟨_, hB4⟩, rfl⟩) ?_
           clear hK0 K0 hw hb hbl
           exact HREST bs ba bg bt w4 ⟨hB4, ks4, ka4, kg4, kt4, ⟨ls, la, lg, lt⟩, nag⟩
          ·skip
           refine zAc fun K0 hK0 => ?_
           simp only [zAb, List.map_cons, List.map_nil, List.getD_cons_zero, List.getD_cons_succ]
           have hmk := zAa HMT w2
           go_wp2_with fail
           clear hmk
           obtain ⟨w3, hw⟩ : ∃ w3, w3 = w2.alloc (.cells (zBc c.ln) 103) := ⟨_, rfl⟩
           obtain ⟨bt, hb⟩ : ∃ bt, bt = w2.heap.size := ⟨_, rfl⟩
           have hbl : Below w2.heap.size w2 w3 := by rw [hw]; exact (Below.refl _ _).alloc (Nat.le_refl _) _
           rw [← hw, ← hb]
           have kt3 : Blk w3 bt 103 (zBc c.ln) := by rw [hw, hb]; exact Blk.new _ _ _
           have lt : wr.heap.size ≤ bt := by rw [hb]; exact hB2.size
           have hB3 := hB2.trans (hbl.mono hB2.size)
           have kg3 := Blk.below kg2 hbl (Blk.lt kg2)
           have ka3 := Blk.below ka2 hbl (Blk.lt ka2)
           refine hK0 _ w3 (fun _ => ⟨⟨_, hB3⟩, rfl⟩) ?_
           clear hK0 K0 hw hb hbl
           refine zAc fun K0 hK0 => ?_
           simp only [zAb, List.map_cons, List.map_nil, List.getD_cons_zero, List.getD_cons_succ]
           have hmk := zAa HMS w3
           go_wp2_with fail
           clear hmk
           obtain ⟨w4, hw⟩ : ∃ w4, w4 = w3.alloc (.cells (zBz c.m) 84) := ⟨_, rfl⟩
           obtain ⟨bs, hb⟩ : ∃ bs, bs = w3.heap.size := ⟨_, rfl⟩
           have hbl : Below w3.heap.size w3 w4 := by rw [hw]; exact (Below.refl _ _).alloc (Nat.le_refl _) _
           rw [← hw, ← hb]
           have ks4 : Blk w4 bs 84 (zBz c.m) := by rw [hw, hb]; exact Blk.new _ _ _
           have ls : wr.heap.size ≤ bs := by rw [hb]; exact hB3.size
           have hB4 := hB3.trans (hbl.mono hB3.size)
           have kg4 := Blk.below kg3 hbl (Blk.lt kg3)
           have ka4 := Blk.below ka3 hbl (Blk.lt ka3)
           have kt4 := Blk.below kt3 hbl (Blk.lt kt3)
           refine hK0 _ w4 (fun _ => ⟨⟨_, hB4⟩, rfl⟩) ?_
           clear hK0 K0 hw hb hbl
           exact HREST bs ba bg bt w4 ⟨hB4, ks4, ka4, kg4, kt4, ⟨ls, la, lg, lt⟩, nag⟩
         ·skip
          refine zAc fun K0 hK0 => ?_
          simp only [zAb, List.map_cons, List.map_nil, List.getD_cons_zero, List.getD_cons_succ]
          have hmk := zAa HMT w1
          go_wp2_with fail
          clear hmk
          obtain ⟨w2, hw⟩ : ∃ w2, w2 = w1.alloc (.cells (zBc c.ln) 103) := ⟨_, rfl⟩
          obtain ⟨bt, hb⟩ : ∃ bt, bt = w1.heap.size := ⟨_, rfl⟩
          have hbl : Below w1.heap.size w1 w2 := by rw [hw]; exact (Below.refl _ _).alloc (Nat.le_refl _) _
          rw [← hw, ← hb]
          have kt2 : Blk w2 bt 103 (zBc c.ln) := by rw [hw, hb]; exact Blk.new _ _ _
          have lt : wr.heap.size ≤ bt := by rw [hb]; exact hB1.size
          have hB2 := hB1.trans (hbl.mono hB1.size)
          have kg2 := Blk.below kg1 hbl (Blk.lt kg1)
          refine hK0 _ w2 (fun _ => ⟨⟨_, hB2⟩, rfl⟩) ?_
          clear hK0 K0 hw hb hbl
          refine zAm ?_ ?_
          ·refine zAc fun K0 hK0 => ?_
           simp only [zAb, List.map_cons, List.map_nil, List.getD_cons_zero, List.getD_cons_succ]
           have hmk := zAa HMS w2
           go_wp2_with fail
           clear hmk
           obtain ⟨w3, hw⟩ : ∃ w3, w3 = w2.alloc (.cells (zBz c.m) 84) := ⟨_, rfl⟩
           obtain ⟨bs, hb⟩ : ∃ bs, bs = w2.heap.size := ⟨_, rfl⟩
           have hbl : Below w2.heap.size w2 w3 := by rw [hw]; exact (Below.refl _ _).alloc (Nat.le_refl _) _
           rw [← hw, ← hb]
           have ks3 : Blk w3 bs 84 (zBz c.m) := by rw [hw, hb]; exact Blk.new _ _ _
           have ls : wr.heap.size ≤ bs := by rw [hb]; exact hB2.size
           have hB3 := hB2.trans (hbl.mono hB2.size)
           have kg3 := Blk.below kg2 hbl (Blk.lt kg2)
           have kt3 := Blk.below kt2 hbl (Blk.lt kt2)
           refine hK0 _ w3 (fun _ => ⟨⟨_, hB3⟩, rfl⟩) ?_
           clear hK0 K0 hw hb hbl
           refine zAc fun K0 hK0 => ?_
           simp only [zAb, List.map_cons, List.map_nil, List.getD_cons_zero, List.getD_cons_succ]
           have hmk := zAa HMI w3
           go_wp2_with fail
           clear hmk
           obtain ⟨w4, hw⟩ : ∃ w4, w4 = w3.alloc (.cells (madeCells #[Value.int .i64 0] c.m) 3) := ⟨_, rfl⟩
           obtain ⟨ba, hb⟩ : ∃ ba, ba = w3.heap.size := ⟨_, rfl⟩
           have hbl : Below w3.heap.size w3 w4 := by rw [hw]; exact (Below.refl _ _).alloc (Nat.le_refl _) _
           rw [← hw, ← hb]
           have ka4 : IRow w4 ba (List.replicate c.m 0) [] := by rw [hw, hb]; exact zBe w3 c.m
           have la : wr.heap.size ≤ ba := by rw [hb]; exact hB3.size
           have hB4 := hB3.trans (hbl.mono hB3.size)
           have kg4 := Blk.below kg3 hbl (Blk.lt kg3)
           have kt4 := Blk.below kt3 hbl (Blk.lt kt3)
           have ks4 := Blk.below ks3 hbl (Blk.lt ks3)
           have nag : ba ≠ bg := by have := Blk.lt kg3; omega
           refine hK0 _ w4 (fun _ => ⟨⟨_, hB4⟩, rfl⟩) ?_
           clear hK0 K0 hw hb hbl
           exact HREST bs ba bg bt w4 ⟨hB4, ks4, ka4, kg4, kt4, ⟨ls, la, lg, lt⟩, nag⟩
          ·skip
           refine zAc fun K0 hK0 => ?_
           simp only [zAb, List.map_cons, List.map_nil, List.getD_cons_zero, List.getD_cons_succ]
           have hmk := zAa HMI w2
           go_wp2_with fail
           clear hmk
           obtain ⟨w3, hw⟩ : ∃ w3, w3 = w2.alloc (.cells (madeCells #[Value.int .i64 0] c.m) 3) := ⟨_, rfl⟩
           obtain ⟨ba, hb⟩ : ∃ ba, ba = w2.heap.size := ⟨_, rfl⟩
           have hbl : Below w2.heap.size w2 w3 := by rw [hw]; exact (Below.refl _ _).alloc (Nat.le_refl _) _
           rw [← hw, ← hb]
           have ka3 : IRow w3 ba (List.replicate c.m 0) [] := by rw [hw, hb]; exact zBe w2 c.m
           have la : wr.heap.size ≤ ba := by rw [hb]; exact hB2.size
           have hB3 := hB2.trans (hbl.mono hB2.size)
           have kg3 := Blk.below kg2 hbl (Blk.lt kg2)
           have kt3 := Blk.below kt2 hbl (Blk.lt kt2)
           have nag : ba ≠ bg := by have := Blk.lt kg2; omega
           refine hK0 _ w3 (fun _ => ⟨⟨_, hB3⟩, rfl⟩) ?_
           clear hK0 K0 hw hb hbl
           refine zAc fun K0 hK0 => ?_
           simp only [zAb, List.map_cons, List.map_nil, List.getD_cons_zero, List.getD_cons_succ]
           have hmk := zAa HMS w3
           go_wp2_with fail
           clear hmk
           obtain ⟨w4, hw⟩ : ∃ w4, w4 = w3.alloc (.cells (zBz c.m) 84) := ⟨_, rfl⟩
           obtain ⟨bs, hb⟩ : ∃ bs, bs = w3.heap.size := ⟨_, rfl⟩
           have hbl : Below w3.heap.size w3 w4 := by rw [hw]; exact (Below.refl _ _).alloc (Nat.le_refl _) _
           rw [← hw, ← hb]
           have ks4 : Blk w4 bs 84 (zBz c.m) := by rw [hw, hb]; exact Blk.new _ _ _
           have ls : wr.heap.size ≤ bs := by rw [hb]; exact hB3.size
           have hB4 := hB3.trans (hbl.mono hB3.size)
           have kg4 := Blk.below kg3 hbl (Blk.lt kg3)
           have kt4 := Blk.below kt3 hbl (Blk.lt kt3)
           have ka4 := Blk.below ka3 hbl (Blk.lt ka3)
           refine hK0 _ w4 (fun _ => ⟨⟨_, hB4⟩, rfl⟩) ?_
           clear hK0 K0 hw hb hbl
           exact HREST bs ba bg bt w4 ⟨hB4, ks4, ka4, kg4, kt4, ⟨ls, la, lg, lt⟩, nag⟩
       ·skip
        refine zAc fun K0 hK0 => ?_
        simp only [zAb, List.map_cons, List.map_nil, List.getD_cons_zero, List.getD_cons_succ]
        have hmk := zAa HMT wd
        go_wp2_with fail
        clear hmk
        obtain ⟨w1, hw⟩ : ∃ w1, w1 = wd.alloc (.cells (zBc c.ln) 103) := ⟨_, rfl⟩
        obtain ⟨bt, hb⟩ : ∃ bt, bt = wd.heap.size := ⟨_, rfl⟩
        have hbl : Below wd.heap.size wd w1 := by rw [hw]; exact (Below.refl _ _).alloc (Nat.le_refl _) _
        rw [← hw, ← hb]
        have kt1 : Blk w1 bt 103 (zBc c.ln) := by rw [hw, hb]; exact Blk.new _ _ _
        have lt : wr.heap.size ≤ bt := by rw [hb]; exact hB0.size
        have hB1 := hB0.trans (hbl.mono hB0.size)
        refine hK0 _ w1 (fun _ => ⟨⟨_, hB1⟩, rfl⟩) ?_
        clear hK0 K0 hw hb hbl
        refine zAm ?_ ?_
        ·refine zAc fun K0 hK0 => ?_
         simp only [zAb, List.map_cons, List.map_nil, List.getD_cons_zero, List.getD_cons_succ]
         have hmk := zAa HMS w1
         go_wp2_with fail
         clear hmk
         obtain ⟨w2, hw⟩ : ∃ w2, w2 = w1.alloc (.cells (zBz c.m) 84) := ⟨_, rfl⟩
         obtain ⟨bs, hb⟩ : ∃ bs, bs = w1.heap.size := ⟨_, rfl⟩
         have hbl : Below w1.heap.size w1 w2 := by rw [hw]; exact (Below.refl _ _).alloc (Nat.le_refl _) _
         rw [← hw, ← hb]
         have ks2 : Blk w2 bs 84 (zBz c.m) := by rw [hw, hb]; exact Blk.new _ _ _
         have ls : wr.heap.size ≤ bs := by rw [hb]; exact hB1.size
         have hB2 := hB1.trans (hbl.mono hB1.size)
         have kt2 := Blk.below kt1 hbl (Blk.lt kt1)
         refine hK0 _ w2 (fun _ => ⟨⟨_, hB2⟩, rfl⟩) ?_
         clear hK0 K0 hw hb hbl
         refine zAm ?_ ?_
         ·refine zAc fun K0 hK0 => ?_
          simp only [zAb, List.map_cons, List.map_nil, List.getD_cons_zero, List.getD_cons_succ]
          have hmk := zAa HMI w2
          go_wp2_with fail
          clear hmk
          obtain ⟨w3, hw⟩ : ∃ w3, w3 = w2.alloc (.cells (madeCells #[Value.int .i64 0] c.m) 3) := ⟨_, rfl⟩
          obtain ⟨ba, hb⟩ : ∃ ba, ba = w2.heap.size := ⟨_, rfl⟩
          have hbl : Below w2.heap.size w2 w3 := by rw [hw]; exact (Below.refl _ _).alloc (Nat.le_refl _) _
          rw [← hw, ← hb]
          have ka3 : IRow w3 ba (List.replicate c.m 0) [] := by rw [hw, hb]; exact zBe w2 c.m
          have la : wr.heap.size ≤ ba := by rw [hb]; exact hB2.size
          have hB3 := hB2.trans (hbl.mono hB2.size)
          have kt3 := Blk.below kt2 hbl (Blk.lt kt2)
          have ks3 := Blk.below ks2 hbl (Blk.lt ks2)
          refine hK0 _ w3 (fun _ => ⟨⟨_, hB3⟩, rfl⟩) ?_
          clear hK0 K0 hw hb hbl
          refine zAc fun K0 hK0 => ?_
          simp only [zAb, List.map_cons, List.map_nil, List.getD_cons_zero, List.getD_cons_succ]
          have hmk := zAa HMI w3
          go_wp2_with fail
          clear hmk
          obtain ⟨w4, hw⟩ : ∃ w4, w4 = w3.alloc (.cells (madeCells #[Value.int .i64 0] c.m) 3) := ⟨_, rfl⟩
          obtain ⟨bg, hb⟩ : ∃ bg, bg = w3.heap.size := ⟨_, rfl⟩
          have hbl : Below w3.heap.size w3 w4 := by rw [hw]; exact (Below.refl _ _).alloc (Nat.le_refl _) _
          rw [← hw, ← hb]
          have kg4 : IRow w4 bg (List.replicate c.m 0) [] := by rw [hw, hb]; exact zBe w3 c.m
          have lg : wr.heap.size ≤ bg := by rw [hb]; exact hB3.size
          have hB4 := hB3.trans (hbl.mono hB3.size)
          have kt4 := Blk.below kt3 hbl (Blk.lt kt3)
          have ks4 := Blk.below ks3 hbl (Blk.lt ks3)
          have ka4 := Blk.below ka3 hbl (Blk.lt ka3)
          have nag : ba ≠ bg := by have := Blk.lt ka3; omega
          refine hK0 _ w4 (fun _ => ⟨⟨_, hB4⟩, rfl⟩) ?_
          clear hK0 K0 hw hb hbl
          exact HREST bs ba bg bt w4 ⟨hB4, ks4, ka4, kg4, kt4, ⟨ls, la, lg, lt⟩, nag⟩
         ·skip
          refine zAc fun K0 hK0 => ?_
          simp only [zAb, List.map_cons, List.map_nil, List.getD_cons_zero, List.getD_cons_succ]
          have hmk := zAa HMI w2
          go_wp2_with fail
          clear hmk
          obtain ⟨w3, hw⟩ : ∃ w3, w3 = w2.alloc (.cells (madeCells #[Value.int .i64 0] c.m) 3) := ⟨_, rfl⟩
          obtain ⟨bg, hb⟩ : ∃ bg, bg = w2.heap.size := ⟨_, rfl⟩
          have hbl : Below w2.heap.size w2 w3 := by rw [hw]; exact (Below.refl _ _).alloc (Nat.le_refl _) _
          rw [← hw, ← hb]
          have kg3 : IRow w3 bg (List.replicate c.m 0) [] := by rw [hw, hb]; exact zBe w2 c.m
          have lg : wr.heap.size ≤ bg := by rw [hb]; exact hB2.size
          have hB3 := hB2.trans (hbl.mono hB2.size)
          have kt3 := Blk.below kt2 hbl (Blk.lt kt2)
          have ks3 := Blk.below ks2 hbl (Blk.lt ks2)
          refine hK0 _ w3 (fun _ => ⟨⟨_, hB3⟩, rfl⟩) ?_
          clear hK0 K0 hw hb hbl
          refine zAc fun K0 hK0 => ?_
          simp only [zAb, List.map_cons, List.map_nil, List.getD_cons_zero, List.getD_cons_succ]
          have hmk := zAa HMI w3
          go_wp2_with fail
          clear hmk
          obtain ⟨w4, hw⟩ : ∃ w4, w4 = w3.alloc (.cells (madeCells #[Value.int .i64 0] c.m) 3) := ⟨_, rfl⟩
          obtain ⟨ba, hb⟩ : ∃ ba, ba = w3.heap.size := ⟨_, rfl⟩
          have hbl : Below w3.heap.size w3 w4 := by rw [hw]; exact (Below.refl _ _).alloc (Nat.le_refl _) _
          rw [← hw, ← hb]
          have ka4 : IRow w4 ba (List.replicate c.m 0) [] := by rw [hw, hb]; exact zBe w3 c.m
          have la : wr.heap.size ≤ ba := by rw [hb]; exact hB3.size
          have hB4 := hB3.trans (hbl.mono hB3.size)
          have kt4 := Blk.below kt3 hbl (Blk.lt kt3)
          have ks4 := Blk.below ks3 hbl (Blk.lt ks3)
          have kg4 := Blk.below kg3 hbl (Blk.lt kg3)
          have nag : ba ≠ bg := by have := Blk.lt kg3; omega
          refine hK0 _ w4 (fun _ => ⟨⟨_, hB4⟩, rfl⟩) ?_
          clear hK0 K0 hw hb hbl
          exact HREST bs ba bg bt w4 ⟨hB4, ks4, ka4, kg4, kt4, ⟨ls, la, lg, lt⟩, nag⟩
        ·skip
         refine zAm ?_ ?_
         ·refine zAc fun K0 hK0 => ?_
          simp only [zAb, List.map_cons, List.map_nil, List.getD_cons_zero, List.getD_cons_succ]
          have hmk := zAa HMI w1
          go_wp2_with fail
          clear hmk
          obtain ⟨w2, hw⟩ : ∃ w2, w2 = w1.alloc (.cells (madeCells #[Value.int .i64 0] c.m) 3) := ⟨_, rfl⟩
          obtain ⟨ba, hb⟩ : ∃ ba, ba = w1.heap.size := ⟨_, rfl⟩
          have hbl : Below w1.heap.size w1 w2 := by rw [hw]; exact (Below.refl _ _).alloc (Nat.le_refl _) _
          rw [← hw, ← hb]
          have ka2 : IRow w2 ba (List.replicate c.m 0) [] := by rw [hw, hb]; exact zBe w1 c.m
          have la : wr.heap.size ≤ ba := by rw [hb]; exact hB1.size
          have hB2 := hB1.trans (hbl.mono hB1.size)
          have kt2 := Blk.below kt1 hbl (Blk.lt kt1)
          refine hK0 _ w2 (fun _ => ⟨⟨_, hB2⟩, rfl⟩) ?_
          clear hK0 K0 hw hb hbl
          refine zAm ?_ ?_
          ·refine zAc fun K0 hK0 => ?_
           simp only [zAb, List.map_cons, List.map_nil, List.getD_cons_zero, List.getD_cons_succ]
           have hmk := zAa HMS w2
           go_wp2_with fail
           clear hmk
           obtain ⟨w3, hw⟩ : ∃ w3, w3 = w2.alloc (.cells (zBz c.m) 84) := ⟨_, rfl⟩
           obtain ⟨bs, hb⟩ : ∃ bs, bs = w2.heap.size := ⟨_, rfl⟩
           have hbl : Below w2.heap.size w2 w3 := by rw [hw]; exact (Below.refl _ _).alloc (Nat.le_refl _) _
           rw [← hw, ← hb]
           have ks3 : Blk w3 bs 84 (zBz c.m) := by rw [hw, hb]; exact Blk.new _ _ _
           have ls : wr.heap.size ≤ bs := by rw [hb]; exact hB2.size
           have hB3 := hB2.trans (hbl.mono hB2.size)
           have kt3 := Blk.below kt2 hbl (Blk.lt kt2)
           have ka3 := Blk.below ka2 hbl (Blk.lt ka2)
           refine hK0 _ w3 (fun _ => ⟨⟨_, hB3⟩, rfl⟩) ?_
           clear hK0 K0 hw hb hbl
           refine zAc fun K0 hK0 => ?_
           simp only [zAb, List.map_cons, List.map_nil, List.getD_cons_zero, List.getD_cons_succ]
           have hmk := zAa HMI w3
           go_wp2_with fail
           clear hmk
           obtain ⟨w4, hw⟩ : ∃ w4, w4 = w3.alloc (.cells (madeCells #[Value.int .i64 0] c.m) 3) := ⟨_, rfl⟩
           obtain ⟨bg, hb⟩ : ∃ bg, bg = w3.heap.size := ⟨_, rfl⟩
           have hbl : Below w3.heap.size w3 w4 := by rw [hw]; exact (Below.refl _ _).alloc (Nat.le_refl _) _
           rw [← hw, ← hb]
           have kg4 : IRow w4 bg (List.replicate c.m 0) [] := by rw [hw, hb]; exact zBe w3 c.m
           have lg : wr.heap.size ≤ bg := by rw [hb]; exact hB3.size
           have hB4 := hB3.trans (hbl.mono hB3.size)
           have kt4 := Blk.below kt3 hbl (Blk.lt kt3)
           have ka4 := Blk.below ka3 hbl (Blk.lt ka3)
           have ks4 := Blk.below ks3 hbl (Blk.lt ks3)
           have nag : ba ≠ bg := by have := Blk.lt ka3; omega
           refine hK0 _ w4 (fun _ => ⟨⟨_, hB4⟩, rfl⟩) ?_
           clear hK0 K0 hw hb hbl
           exact HREST bs ba bg bt w4 ⟨hB4, ks4, ka4, kg4, kt4, ⟨ls, la, lg, lt⟩, nag⟩
          ·skip
           refine zAc fun K0 hK0 => ?_
           simp only [zAb, List.map_cons, List.map_nil, List.getD_cons_zero, List.getD_cons_succ]
           have hmk := zAa HMI w2
           go_wp2_with fail
           clear hmk
           obtain ⟨w3, hw⟩ : ∃ w3, w3 = w2.alloc (.cells (madeCells #[Value.int .i64 0] c.m) 3) := ⟨_, rfl⟩
           obtain ⟨bg, hb⟩ : ∃ bg, bg = w2.heap.size := ⟨_, rfl⟩
           have hbl : Below w2.heap.size w2 w3 := by rw [hw]; exact (Below.refl _ _).alloc (Nat.le_refl _) _
           rw [← hw, ← hb]
           have kg3 : IRow w3 bg (List.replicate c.m 0) [] := by rw [hw, hb]; exact zBe w2 c.m
           have lg : wr.heap.size ≤ bg := by rw [hb]; exact hB2.size
           have hB3 := hB2.trans (hbl.mono hB2.size)
           have kt3 := Blk.below kt2 hbl (Blk.lt kt2)
           have ka3 := Blk.below ka2 hbl (Blk.lt ka2)
           have nag : ba ≠ bg := by have := Blk.lt ka2; omega
           refine hK0 _ w3 (fun _ => ⟨⟨_, hB3⟩, rfl⟩) ?_
           clear hK0 K0 hw hb hbl
           refine zAc fun K0 hK0 => ?_
           simp only [zAb, List.map_cons, List.map_nil, List.getD_cons_zero, List.getD_cons_succ]
           have hmk := zAa HMS w3
           go_wp2_with fail
           clear hmk
           obtain ⟨w4, hw⟩ : ∃ w4, w4 = w3.alloc (.cells (zBz c.m) 84) := ⟨_, rfl⟩
           obtain ⟨bs, hb⟩ : ∃ bs, bs = w3.heap.size := ⟨_, rfl⟩
           have hbl : Below w3.heap.size w3 w4 := by rw [hw]; exact (Below.refl _ _).alloc (Nat.le_refl _) _
           rw [← hw, ← hb]
           have ks4 : Blk w4 bs 84 (zBz c.m) := by rw [hw, hb]; exact Blk.new _ _ _
           have ls : wr.heap.size ≤ bs := by rw [hb]; exact hB3.size
           have hB4 := hB3.trans (hbl.mono hB3.size)
           have kt4 := Blk.below kt3 hbl (Blk.lt kt3)
           have ka4 := Blk.below ka3 hbl (Blk.lt ka3)
           have kg4 := Blk.below kg3 hbl (Blk.lt kg3)
           refine hK0 _ w4 (fun _ => ⟨⟨_, hB4⟩, rfl⟩) ?_
           clear hK0 K0 hw hb hbl
           exact HREST bs ba bg bt w4 ⟨hB4, ks4, ka4, kg4, kt4, ⟨ls, la, lg, lt⟩, nag⟩
         ·skip
          refine zAc fun K0 hK0 => ?_
          simp only [zAb, List.map_cons, List.map_nil, List.getD_cons_zero, List.getD_cons_succ]
          have hmk := zAa HMI w1
          go_wp2_with fail
          clear hmk
          obtain ⟨w2, hw⟩ : ∃ w2, w2 = w1.alloc (.cells (madeCells #[Value.int .i64 0] c.m) 3) := ⟨_, rfl⟩
          obtain ⟨bg, hb⟩ : ∃ bg, bg = w1.heap.size := ⟨_, rfl⟩
          have hbl : Below w1.heap.size w1 w2 := by rw [hw]; exact (Below.refl _ _).alloc (Nat.le_refl _) _
          rw [← hw, ← hb]
          have kg2 : IRow w2 bg (List.replicate c.m 0) [] := by rw [hw, hb]; exact zBe w1 c.m
          have lg : wr.heap.size ≤ bg := by rw [hb]; exact hB1.size
          have hB2 := hB1.trans (hbl.mono hB1.size)
          have kt2 := Blk.below kt1 hbl (Blk.lt kt1)
          refine hK0 _ w2 (fun _ => ⟨⟨_, hB2⟩, rfl⟩) ?_
          clear hK0 K0 hw hb hbl
          refine zAm ?_ ?_
          ·refine zAc fun K0 hK0 => ?_
           simp only [zAb, List.map_cons, List.map_nil, List.getD_cons_zero, List.getD_cons_succ]
           have hmk := zAa HMS w2
           go_wp2_with fail
           clear hmk
           obtain ⟨w3, hw⟩ : ∃ w3, w3 = w2.alloc (.cells (zBz c.m) 84) := ⟨_, rfl⟩
           obtain ⟨bs, hb⟩ : ∃ bs, bs = w2.heap.size := ⟨_, rfl⟩
           have hbl : Below w2.heap.size w2 w3 := by rw [hw]; exact (Below.refl _ _).alloc (Nat.le_refl _) _
           rw [← hw, ← hb]
           have ks3 : Blk w3 bs 84 (zBz c.m) := by rw [hw, hb]; exact Blk.new _ _ _
           have ls : wr.heap.size ≤ bs := by rw [hb]; exact hB2.size
           have hB3 := hB2.trans (hbl.mono hB2.size)
           have kt3 := Blk.below kt2 hbl (Blk.lt kt2)
           have kg3 := Blk.below kg2 hbl (Blk.lt kg2)
           refine hK0 _ w3 (fun _ => ⟨⟨_, hB3⟩, rfl⟩) ?_
           clear hK0 K0 hw hb hbl
           refine zAc fun K0 hK0 => ?_
           simp only [zAb, List.map_cons, List.map_nil, List.getD_cons_zero, List.getD_cons_succ]
           have hmk := zAa HMI w3
           go_wp2_with fail
           clear hmk
           obtain ⟨w4, hw⟩ : ∃ w4, w4 = w3.alloc (.cells (madeCells #[Value.int .i64 0] c.m) 3) := ⟨_, rfl⟩
           obtain ⟨ba, hb⟩ : ∃ ba, ba = w3.heap.size := ⟨_, rfl⟩
           have hbl : Below w3.heap.size w3 w4 := by rw [hw]; exact (Below.refl _ _).alloc (Nat.le_refl _) _
           rw [← hw, ← hb]
           have ka4 : IRow w4 ba (List.replicate c.m 0) [] := by rw [hw, hb]; exact zBe w3 c.m
           have la : wr.heap.size ≤ ba := by rw [hb]; exact hB3.size
           have hB4 := hB3.trans (hbl.mono hB3.size)
           have kt4 := Blk.below kt3 hbl (Blk.lt kt3)
           have kg4 := Blk.below kg3 hbl (Blk.lt kg3)
           have ks4 := Blk.below ks3 hbl (Blk.lt ks3)
           have nag : ba ≠ bg := by have := Blk.lt kg3; omega
           refine hK0 _ w4 (fun _ => ⟨⟨_, hB4⟩, rfl⟩) ?_
           clear hK0 K0 hw hb hbl
           exact HREST bs ba bg bt w4 ⟨hB4, ks4, ka4, kg4, kt4, ⟨ls, la, lg, lt⟩, nag⟩
          ·skip
           refine zAc fun K0 hK0 => ?_
           simp only [zAb, List.map_cons, List.map_nil, List.getD_cons_zero, List.getD_cons_succ]
           have hmk := zAa HMI w2
           go_wp2_with fail
           clear hmk
           obtain ⟨w3, hw⟩ : ∃ w3, w3 = w2.alloc (.cells (madeCells #[Value.int .i64 0] c.m) 3) := ⟨_, rfl⟩
           obtain ⟨ba, hb⟩ : ∃ ba, ba = w2.heap.size := ⟨_, rfl⟩
           have hbl : Below w2.heap.size w2 w3 := by rw [hw]; exact (Below.refl _ _).alloc (Nat.le_refl _) _
           rw [← hw, ← hb]
           have ka3 : IRow w3 ba (List.replicate c.m 0) [] := by rw [hw, hb]; exact zBe w2 c.m
           have la : wr.heap.size ≤ ba := by rw [hb]; exact hB2.size
           have hB3 := hB2.trans (hbl.mono hB2.size)
           have kt3 := Blk.below kt2 hbl (Blk.lt kt2)
           have kg3 := Blk.below kg2 hbl (Blk.lt kg2)
           have nag : ba ≠ bg := by have := Blk.lt kg2; omega
           refine hK0 _ w3 (fun _ => ⟨⟨_, hB3⟩, rfl⟩) ?_
           clear hK0 K0 hw hb hbl
           refine zAc fun K0 hK0 => ?_
           simp only [zAb, List.map_cons, List.map_nil, List.getD_cons_zero, List.getD_cons_succ]
           have hmk := zAa HMS w3
           go_wp2_with fail
           clear hmk
           obtain ⟨w4, hw⟩ : ∃ w4, w4 = w3.alloc (.cells (zBz c.m) 84) := ⟨_, rfl⟩
           obtain ⟨bs, hb⟩ : ∃ bs, bs = w3.heap.size := ⟨_, rfl⟩
           have hbl : Below w3.heap.size w3 w4 := by rw [hw]; exact (Below.refl _ _).alloc (Nat.le_refl _) _
           rw [← hw, ← hb]
           have ks4 : Blk w4 bs 84 (zBz c.m) := by rw [hw, hb]; exact Blk.new _ _ _
           have ls : wr.heap.size ≤ bs := by rw [hb]; exact hB3.size
           have hB4 := hB3.trans (hbl.mono hB3.size)
           have kt4 := Blk.below kt3 hbl (Blk.lt kt3)
           have kg4 := Blk.below kg3 hbl (Blk.lt kg3)
           have ka4 := Blk.below ka3 hbl (Blk.lt ka3)
           refine hK0 _ w4 (fun _ => ⟨⟨_, hB4⟩, rfl⟩) ?_
           clear hK0 K0 hw hb hbl
           exact HREST bs ba bg bt w4 ⟨hB4, ks4, ka4, kg4, kt4, ⟨ls, la, lg, lt⟩, nag⟩
    ·intro bs ba bg bt W4 hR
     have HR := hide hR
     unfold zCu
     refine zAc fun K0 hK0 => ?_
     simp only [zAb, List.map_cons, List.map_nil, List.getD_cons_zero, List.getD_cons_succ]
     go_wp2_with fail
     refine hK0 _ W4 (fun _ => ⟨⟨_, (zAa HR).bel⟩, rfl⟩) ?_
     clear hK0 K0
     refine zAc fun K0 hK0 => ?_
     simp only [zAb, List.map_cons, List.map_nil, List.getD_cons_zero, List.getD_cons_succ]
     go_wp2_with fail
     obtain ⟨w5, hw5⟩ : ∃ w5, w5 = W4.alloc (.cells #[.slice (some ⟨bs, 0, none⟩) c.m c.m, .slice (some ⟨ba, 0, none⟩) c.m c.m, .slice (some ⟨bg, 0, none⟩) c.m c.m, .slice (some ⟨bt, 0, none⟩) c.ln c.ln] 81) := ⟨_, rfl⟩
     obtain ⟨bb, hbb⟩ : ∃ bb, bb = W4.heap.size := ⟨_, rfl⟩
     have hb5 : Below W4.heap.size W4 w5 := by rw [hw5]; exact (Below.refl _ _).alloc (Nat.le_refl _) _
     have k5 : Blk w5 bb 81 #[.slice (some ⟨bs, 0, none⟩) c.m c.m, .slice (some ⟨ba, 0, none⟩) c.m c.m, .slice (some ⟨bg, 0, none⟩) c.m c.m, .slice (some ⟨bt, 0, none⟩) c.ln c.ln] := by rw [hw5, hbb]; exact Blk.new _ _ _
     rw [← hw5, ← hbb]
     have hB5 := hR.bel.trans (hb5.mono hR.bel.size)
     have hbn : BrNew w5 c wr.heap.size ⟨bb, bs, ba, bg, bt⟩ := ⟨k5, hR.s.below hb5 hR.s.lt, Blk.below hR.a hb5 (Blk.lt hR.a), Blk.below hR.g hb5 (Blk.lt hR.g), hR.t.below hb5 hR.t.lt, ⟨by have := hR.bel.size; rw [hbb]; exact this, hR.low⟩, hR.ag⟩
     have HBN := hide hbn
     have HB5 := hide hB5
     refine hK0 _ w5 (fun _ => ⟨⟨_, hB5⟩, rfl⟩) ?_
     clear hK0 K0 hw5 hbb hb5 k5 hbn hR
     refine zAc fun K0 hK0 => ?_
     simp only [zAb, List.map_cons, List.map_nil, List.getD_cons_zero, List.getD_cons_succ]
     go_wp2_with fail
     refine hK0 _ _ (fun _ => ⟨⟨_, hB5.alloc hB5.size _⟩, rfl⟩) ?_
     have hown := zAi (zAa HA).bg.oB hB5
     have HOWN := hide hown
     have HMQ := hide (show (k + 1) * 8 ≤ 140737488355328 by omega)
     have hsz : w.heap.size ≤ w5.heap.size := Nat.le_trans (zAa HA).bel.size hB5.size
     clear hK0 K0 hown
     refine zAc fun K0 hK0 => ?_
     simp only [zAb, List.map_cons, List.map_nil, List.getD_cons_zero, List.getD_cons_succ]
     go_wp2_with (at_builtin; (refine zAl w5 rfl (.tmp 24) (.tmp 37) _ rfl w.heap.size 76 iP _ 1 8 Tryz.underlying67 hiP hzP hsP hyP rfl (by omega) (by omega) _ k _ (zAa HOWN) rfl _ 1 _ rfl rfl rfl (by simp [Value.oneCell']) (zAa HMQ) hsz ?_); intro g7 cap7 w7 hg7 hown7 hbel7 hgr7 hat7)
     obtain ⟨⟨u0, u1⟩, y2, ow2, h9⟩ := (zAa HA).branch hB5 (zAa HBN) hgr7 hown7 (by
      rcases hat7 with e | e
      ·exact .inl e
      ·exact .inr (by have := hB5.size; omega))
     have H9 := hide (show Hid (∃ y vB ow, BgA w (w7.setCell ⟨hb, 5, none⟩ (.slice (some ⟨g7, 0, none⟩) (k + 1) cap7)) c cb hb (k + 1) 0 y vB (.slice none 0 0) ow) from hide ⟨_, _, _, h9⟩)
     clear h9 hg7 hown7 hbel7 hgr7 hat7
     refine hK0 _ w7 (fun h => absurd h (by decide)) ?_
     clear hK0 K0
     refine zAc fun K0 hK0 => ?_
     simp only [zAb, List.map_cons, List.map_nil, List.getD_cons_zero, List.getD_cons_succ]
     go_wp2_with fail
     refine hK0 _ w7 (fun h => absurd h (by decide)) ?_
     clear hK0 K0
     refine zAc fun K0 hK0 => ?_
     simp only [zAb, List.map_cons, List.map_nil, List.getD_cons_zero, List.getD_cons_succ]
     go_wp2_with fail
     refine hK0 _ w7 (fun h => absurd h (by decide)) ?_
     clear hK0 K0
     refine zAc fun K0 hK0 => ?_
     simp only [zAb, List.map_cons, List.map_nil, List.getD_cons_zero, List.getD_cons_succ]
     go_wp2_with fail
     refine hK0 _ _ (fun h => absurd h (by decide)) ?_
     refine zBg ?_
     go_wp2_with fail
     go_roundw
     case rel =>
      obtain ⟨y2, vB2, ow2, h2⟩ := zAa (zAa H9)
      exact ⟨k + 1, y2, vB2, ow2, by omega, by go_num, hide h2⟩
     case measure => simp [intOf]; omega
   ·obtain rfl : k = c.n := by omega
    have c3 : wr.cell? ⟨cb, 3, none⟩ = some (.slice c.mi.A c.mi.n c.mi.c) := (zAa HA).kb.cell 3
    rw [zAa HMN] at c3
    clear c0
    go_wp2_with fail
    go_loopw [45] (fun i wr => ∃ (k : Nat) (y : Lay) (vK : Value) (ow : Nat → Tag), k ≤ c.m ∧ i = .int .i64 k ∧ Hid (BgA w wr c cb hb c.n k y vB vK ow)) (fun i _ => c.m - (intOf i).toNat)
    case atStart => exact ⟨0, y, .slice none 0 0, ow, Nat.zero_le _, rfl, HA⟩
    case round =>
     obtain ⟨k, y, vK, ow, hk, rfl, HA⟩ := hrel
     by_cases hltk : k < c.m
     ·have hltk' : (k : Int) < (c.m : Int) := by omega
      obtain ⟨bm, om, z, hA, _, hz, hcz⟩ := zDd (((zAa HC).2.1.2.2.2.below (zAa HA).bel)) (show k < c.mi.n by rw [zAa HMN]; exact hltk)
      have hzk : c.mi.zs.getD k 0 = z := by rw [List.getD_eq_getElem?_getD, hz]; rfl
      have hzb := zAa HMI2 z (List.mem_of_getElem? hz)
      have c0 : wr.cell? ⟨cb, 0, none⟩ = some (.int .i64 c.br) := (zAa HA).kb.cell 0
      rw [zAa HN] at c0
      have c2 : wr.cell? ⟨cb, 2, none⟩ = some (.int .i64 c.tk) := (zAa HA).kb.cell 2
      have c4 : wr.cell? ⟨cb, 4, none⟩ = some (.int .i64 c.cap) := (zAa HA).kb.cell 4
      have HBN := hide (zWu w.heap.size c.n c.cap c.tk wr hn8 (zAa HA).bel.size)
      have HZK := hide hzk
      rw [hA]
      clear c3 hz hzk
      go_wp2_with fail
      refine (zAa HBN).mono ?_
      rintro _ w5 ⟨p, rfl, hbk, hb5, hph⟩
      have HST := hide (zTb w.heap.size c.n p c.cap c.tk (BkS.new c.n) w5 z hbk (by show (0 : Int) ≤ 0 ∧ (0 : Int) ≤ 1048576; omega) (by show (0 : Int) ≤ 0 ∧ (0 : Int) ≤ 1048576; omega) hzb)
      have HB5 := hide hb5
      have HPH := hide hph
      clear hbk hb5 hph c0 c2 c4 HBN
      go_wp2_with fail
      refine (zAa HST).mono ?_
      rintro _ w6 ⟨rfl, hbk6, ho6⟩
      have hb6 : Below wr.heap.size wr w6 := (zAa HB5).trans (ho6.to_below (fun x hx hx2 hx3 => by have := zAa HPH x hx3; omega) (zAa HB5).size)
      rw [← zAa HZK] at hbk6
      have HBK := hide hbk6
      have HB6 := hide hb6
      obtain ⟨A6, cK, hvK, _⟩ := zAf (zAa HA).bg.oK
      subst hvK
      have hown := zAi (zAa HA).bg.oK hb6
      have h6c := ((zAa HA).calm hb6).cell.2.1
      have HOWN := hide hown
      have HMQ := hide (show (k + 1) * 8 ≤ 140737488355328 by omega)
      have hsz : w.heap.size ≤ w6.heap.size := Nat.le_trans (zAa HA).bel.size hb6.size
      clear hbk6 ho6 hb6 hown HST
      go_wp2_with (first
       | (at_builtin; (refine zAl w6 rfl (.tmp 63) (.tmp 65) _ rfl w.heap.size 73 iK _ 1 8 Tryz.underlying68 hiK hzK hsK hyK rfl (by omega) (by omega) _ k _ (zAa HOWN) rfl _ 1 _ rfl rfl rfl (by simp [Value.oneCell']) (zAa HMQ) hsz ?_); intro g7 cap7 w7 hg7 hown7 hbel7 hgr7 hat7
          obtain ⟨⟨u0, u1⟩, y2, ow2, h9⟩ := (zAa HA).book (zAa HB6) (zAa HBK) (zAa HPH) hgr7 hown7 (by
           rcases hat7 with e | e
           ·exact .inl e
           ·exact .inr (by have := (zAa HB6).size; omega))
          have H9 := hide h9
          clear h9 hg7 hown7 hbel7 hgr7 hat7))
      go_roundw
      case rel => exact ⟨k + 1, y2, _, ow2, by omega, by go_num, H9⟩
      case measure => simp [intOf]; omega
     ·obtain rfl : k = c.m := by omega
      obtain ⟨y3, ow3, h3, hp3⟩ := (zAa HA).bg.done ((zAa HC).below (zAa HA).bel) (zAa HCF) (zAa HA).bel.size
      have HF := hide (And.intro (h3.trans (zAa HA).eqb) (And.intro hp3 (zAa HA).bel))
      clear h3 hp3
      go_wp2_with fail
      go_ret
      refine ⟨y3, ow3, ?_, (zAa HF).2.1, (zAa HF).2.2⟩
      rw [(zAa HF).1]
      rfl
end
end
end Go.Proofs.YtbolcebmbpepdaaGreatDoor
