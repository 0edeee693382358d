/- Contracts and plain facts, set together by program out of smaller texts. Conditions: none beyond what each theorem states. -/
import Derived.Test.YtbolcebmbpepdaaGreatDoorM15
import Derived.Test.YtbolcebmbpepdaaGreatDoorM06
import Derived.Test.YtbolcebmbpepdaaGreatDoorM17
import Derived.Test.YtbolcebmbpepdaaGreatDoorM13
import Derived.Test.YtbolcebmbpepdaaGreatDoorM03
namespace Go.Proofs.YtbolcebmbpepdaaGreatDoor
set_option linter.unusedVariables false
section
open Go.RowKit
def CutV (base : Nat) (who : Int) (sent : List Envl) (report : List Int) (sn rn : Nat) (wy : World) (v : Value) (W : World) : Prop :=
 ∃ (p : Nat) (A2 : Option Addr) (c2 : Nat) (A3 : Option Addr) (c3 : Nat), v = .pointer (some ⟨p, 0, none⟩) ∧ Blk W p 57 #[.int .i64 0, .int .i64 who, .int .i64 0, .int .i64 0, .int .i64 0, .int .i64 0, .int .i64 0, .int .i64 0, .slice A2 sn c2, .slice none 0 0, .slice A3 rn c3] ∧
  W.ownsRow base 111 4 (.slice A2 sn c2) sn (sent.flatMap Envl.cells) ∧ W.ownsRow base 3 1 (.slice A3 rn c3) rn (report.map (.int .i64)) ∧ Below wy.heap.size wy W ∧ wy.heap.size ≤ p
theorem zRt {base p b2 b3 sn rn c2 c3 : Nat} {who : Int} {sent : List Envl} {report : List Int} {wy W : World} {A2 A3 : Option Addr} (kp : Blk W p 57 #[.int .i64 0, .int .i64 0, .int .i64 0, .int .i64 0, .int .i64 0, .int .i64 0, .int .i64 0, .int .i64 0, .slice none 0 0, .slice none 0 0, .slice none 0 0])
    (h2 : W.ownsRow b2 111 4 (.slice A2 sn c2) sn (sent.flatMap Envl.cells)) (h3 : W.ownsRow b3 3 1 (.slice A3 rn c3) rn (report.map (.int .i64))) (hW : Below wy.heap.size wy W) (hp : wy.heap.size ≤ p) (e2 : base ≤ b2) (e3 : base ≤ b3) :
    CutV base who sent report sn rn wy (.pointer (some ⟨p, 0, none⟩)) (W.setCells p 0 [.int .i64 0, .int .i64 who, .int .i64 0, .int .i64 0, .int .i64 0, .int .i64 0, .int .i64 0, .int .i64 0, .slice A2 sn c2, .slice none 0 0, .slice A3 rn c3]) := by
 have ho : Only (fun k => k = p) W (W.setCells p 0 [.int .i64 0, .int .i64 who, .int .i64 0, .int .i64 0, .int .i64 0, .int .i64 0, .int .i64 0, .int .i64 0, .slice A2 sn c2, .slice none 0 0, .slice A3 rn c3]) := by
  have : ∀ (vs : List Value) (o : Nat) (w : World), Only (fun k => k = p) W w → Only (fun k => k = p) W (w.setCells p o vs) := by
   intro vs
   induction vs with
   | nil => intro o w h; exact h
   | cons v vs ih => intro o w h; exact ih (o + 1) _ (zAg h o v)
  exact this _ _ _ (Only.refl _ _)
 refine ⟨p, A2, c2, A3, c3, rfl, ?_, zBr (zAk h2 ho (fun g hg e => ?_)) e2, zBr (zAk h3 ho (fun g hg e => ?_)) e3, below_setCells _ _ _ hW hp, hp⟩
 ·have h := Blk.setCells_ [.int .i64 0, .int .i64 who, .int .i64 0, .int .i64 0, .int .i64 0, .int .i64 0, .int .i64 0, .int .i64 0, .slice A2 sn c2, .slice none 0 0, .slice A3 rn c3] [] [.int .i64 0, .int .i64 0, .int .i64 0, .int .i64 0, .int .i64 0, .int .i64 0, .int .i64 0, .int .i64 0, .slice none 0 0, .slice none 0 0, .slice none 0 0] [] W kp rfl
  exact h
 ·exact zAe h2 kp (by decide) (by rw [hg, e])
 ·exact zAe h3 kp (by decide) (by rw [hg, e])
theorem cutV_new {base b2 b3 sn rn c2 c3 : Nat} {who : Int} {sent : List Envl} {report : List Int} {wy w3 : World} {A2 A3 : Option Addr}
    (h2 : w3.ownsRow b2 111 4 (.slice A2 sn c2) sn (sent.flatMap Envl.cells)) (h3 : w3.ownsRow b3 3 1 (.slice A3 rn c3) rn (report.map (.int .i64))) (hW : Below wy.heap.size wy w3) (e2 : base ≤ b2) (e3 : base ≤ b3) :
    CutV base who sent report sn rn wy (.pointer (some ⟨w3.heap.size, 0, none⟩)) (w3.alloc (.cells #[.int .i64 0, .int .i64 who, .int .i64 0, .int .i64 0, .int .i64 0, .int .i64 0, .int .i64 0, .int .i64 0, .slice A2 sn c2, .slice none 0 0, .slice A3 rn c3] 57)) :=
 ⟨w3.heap.size, A2, c2, A3, c3, rfl, Blk.new _ 57 _, zBr (h2.alloc _) e2, zBr (h3.alloc _) e3, hW.alloc hW.size _, hW.size⟩
theorem outT_len {l : List Tol} {outs : List Tol} {k b s : Nat} (h : outs.map (·.d) = (l.take k).map fun t => zEc b s t.d) (hk : k ≤ l.length) : outs.length = k := by
 have := congrArg List.length h
 simp at this
 omega
theorem yBu {w w' : World} {base : Nat} {v : Value} {l : List Tol} {p : Nat} {cs : Array Value} (h : OutT w base v l) (kp : Blk w p 57 cs) (hv : v.ownBlock ≠ some p) (ho : Only (fun k => k = p) w w') : OutT w' base v l :=
 ⟨zAk h.1 ho (fun g hg e => hv (by rw [hg, e])), fun t ht => ⟨zAk (h.2 t ht).so ho (fun g hg e => zAe (h.2 t ht).so kp (by decide) (by rw [hg, e])), zAk (h.2 t ht).fo ho (fun g hg e => zAe (h.2 t ht).fo kp (by decide) (by rw [hg, e])), zAk (h.2 t ht).ro ho (fun g hg e => zAe (h.2 t ht).ro kp (by decide) (by rw [hg, e]))⟩⟩
theorem blk_told {w : World} {p : Nat} {t : TypeId} {a0 a1 a2 a3 a4 a5 a6 a7 a8 a9 a10 : Value} (h : Blk w p t #[a0, a1, a2, a3, a4, a5, a6, a7, a8, a9, a10]) (b0 b2 b3 b4 b5 b6 b7 b9 : Value) :
    Blk ((((((((w.setCell ⟨p, 0, none⟩ b0).setCell ⟨p, 2, none⟩ b2).setCell ⟨p, 3, none⟩ b3).setCell ⟨p, 4, none⟩ b4).setCell ⟨p, 5, none⟩ b5).setCell ⟨p, 6, none⟩ b6).setCell ⟨p, 7, none⟩ b7).setCell ⟨p, 9, none⟩ b9) p t #[b0, a1, b2, b3, b4, b5, b6, b7, a8, b9, a10] := by
 have h1 : Blk (w.setCell ⟨p, 0, none⟩ b0) p t #[b0, a1, a2, a3, a4, a5, a6, a7, a8, a9, a10] := h.set_ 0 b0
 have h2 : Blk ((w.setCell ⟨p, 0, none⟩ b0).setCell ⟨p, 2, none⟩ b2) p t #[b0, a1, b2, a3, a4, a5, a6, a7, a8, a9, a10] := h1.set_ 2 b2
 have h3 : Blk (((w.setCell ⟨p, 0, none⟩ b0).setCell ⟨p, 2, none⟩ b2).setCell ⟨p, 3, none⟩ b3) p t #[b0, a1, b2, b3, a4, a5, a6, a7, a8, a9, a10] := h2.set_ 3 b3
 have h4 : Blk ((((w.setCell ⟨p, 0, none⟩ b0).setCell ⟨p, 2, none⟩ b2).setCell ⟨p, 3, none⟩ b3).setCell ⟨p, 4, none⟩ b4) p t #[b0, a1, b2, b3, b4, a5, a6, a7, a8, a9, a10] := h3.set_ 4 b4
 have h5 : Blk (((((w.setCell ⟨p, 0, none⟩ b0).setCell ⟨p, 2, none⟩ b2).setCell ⟨p, 3, none⟩ b3).setCell ⟨p, 4, none⟩ b4).setCell ⟨p, 5, none⟩ b5) p t #[b0, a1, b2, b3, b4, b5, a6, a7, a8, a9, a10] := h4.set_ 5 b5
 have h6 : Blk ((((((w.setCell ⟨p, 0, none⟩ b0).setCell ⟨p, 2, none⟩ b2).setCell ⟨p, 3, none⟩ b3).setCell ⟨p, 4, none⟩ b4).setCell ⟨p, 5, none⟩ b5).setCell ⟨p, 6, none⟩ b6) p t #[b0, a1, b2, b3, b4, b5, b6, a7, a8, a9, a10] := h5.set_ 6 b6
 have h7 : Blk (((((((w.setCell ⟨p, 0, none⟩ b0).setCell ⟨p, 2, none⟩ b2).setCell ⟨p, 3, none⟩ b3).setCell ⟨p, 4, none⟩ b4).setCell ⟨p, 5, none⟩ b5).setCell ⟨p, 6, none⟩ b6).setCell ⟨p, 7, none⟩ b7) p t #[b0, a1, b2, b3, b4, b5, b6, b7, a8, a9, a10] := h6.set_ 7 b7
 have h8 : Blk ((((((((w.setCell ⟨p, 0, none⟩ b0).setCell ⟨p, 2, none⟩ b2).setCell ⟨p, 3, none⟩ b3).setCell ⟨p, 4, none⟩ b4).setCell ⟨p, 5, none⟩ b5).setCell ⟨p, 6, none⟩ b6).setCell ⟨p, 7, none⟩ b7).setCell ⟨p, 9, none⟩ b9) p t #[b0, a1, b2, b3, b4, b5, b6, b7, a8, b9, a10] := h7.set_ 9 b9
 exact h8
def treeVw : OT := .next 8 (.next 10 (.next 11 (.next 12 (.next 13 (.next 14 (.next 15 (.next 16 .done)))))))
def treeV : OT := .fork (.next 4 (.fork (.next 7 (.fork (.next 8 (.next 9 (.next 10 .done))) (.next 9 (.next 8 (.next 10 .done))))) (.next 9 (.next 7 (.next 8 (.next 10 .done)))))) (.next 9 (.next 4 (.next 7 (.next 8 (.next 10 .done)))))
def zHh (c : Cfg) (l : List TolD) (some : Int) : List TolD × Int :=
 if zAh c = false then ([], 4) else if some < 0 ∨ 2 ^ c.br.toNat ≤ some then ([], 2) else (l.map (zEc c.br.toNat some.toNat), 0)
def zWm (base : Nat) (r : List TolD × Int) (e : Ending) (w w' : World) : Prop :=
 ∃ v outs, e = .returned (.tuple #[v, .int .i64 r.2]) ∧ OutT w' base v outs ∧ outs.map (·.d) = r.1 ∧ Below base w w'
theorem zJx {w w' : World} {base : Nat} {c : Int} (h : Below base w w') : zWm base ([], c) (.returned (.tuple #[.slice none 0 0, .int .i64 c])) w w' := ⟨_, [], rfl, OutT.nil _ _, rfl, h⟩
theorem yBd {c : Cfg} (h : zAh c = true) : 1 ≤ c.br ∧ c.br ≤ 8 := by
 unfold zAh at h
 simp only [Bool.and_eq_true] at h
 have := h.1.1.1.1.1.1
 simpa [inB] using this
theorem envs_one (l : List Envl) : ∀ u ∈ l.flatMap Envl.cells, u.oneCell' = true := by
 intro u hu
 obtain ⟨e, _, he⟩ := List.mem_flatMap.1 hu
 simp [Envl.cells] at he
 rcases he with rfl | rfl | rfl | rfl <;> rfl
theorem zSe (k : IntKind) (l : List Int) : ∀ u ∈ l.map (Value.int k), u.oneCell' = true := by
 intro u hu
 obtain ⟨z, _, rfl⟩ := List.mem_map.1 hu
 rfl
theorem zBb {B G : Nat} {a w : World} (h : Below B a w) (hp : B ≤ G) (j : Nat) (u : Value) : Below B a (w.setCell ⟨G, j, none⟩ u) := h.setCell hp u
set_option maxRecDepth 100000 in
set_option maxHeartbeats 2000000 in
theorem yAn (c : Cfg) (A : Option Addr) (n cap : Nat) (l : List Tol) (some_ : Int) (B : Nat) (w : World) (hc : c.ok w B) (hsome : some_ ≤ 9223372036854775807) (hl : l.length = n) (hnc : n ≤ cap) (hcm : cap ≤ maxLen) (hm : n * 136 ≤ 140737488351232)
    (hr : Reads w B 11 A n (l.flatMap Tol.cells)) (hok : ∀ t ∈ l, t.ok w B ∧ t.fits) (hB : B ≤ w.heap.size) :
    Calls Tryz.prog 33 #[c.val, .slice A n cap, .int .i64 some_] w fun e w' => zWm w.heap.size (zHh c (l.map (·.d)) some_) e w w' := by
 have H1 := hide (fun W (hW : Below w.heap.size w W) => zEe c B W (hc.below (hW.mono hB)) (Nat.le_trans hB hW.size))
 have H2 := hide (fun W => zPo some_ hsome W)
 have HBR := hide (fun h : zAh c = true => yBd h)
 obtain ⟨it, hit, ht0, ht1, ht2⟩ := zRu
 obtain ⟨br, ⟨lA, ln, lc, ls⟩, tk, ⟨mA, mn, mc, ms⟩, cp⟩ := c
 unfold Cfg.val at H1 ⊢
 dsimp only at H1 HBR ⊢
 generalize hcfg : (⟨br, ⟨lA, ln, lc, ls⟩, tk, ⟨mA, mn, mc, ms⟩, cp⟩ : Cfg) = cfg at *
 have hbr : cfg.br = br := by rw [← hcfg]
 have HCBR := hide hbr
 have HR := hide (hr.more hB)
 have HL := hide hl
 have HOK := hide (fun t ht => And.intro ((hok t ht).1.more hB) (hok t ht).2)
 clear hc hcfg hbr hr hl hok
 obtain ⟨wx, hwx⟩ : ∃ wx, wx = w.alloc (.cells #[.int .i64 br, .slice lA ln lc, .int .i64 tk, .slice mA mn mc, .int .i64 cp] 24) := ⟨_, rfl⟩
 have hbx : Below w.heap.size w wx := by rw [hwx]; exact (Below.refl _ _).alloc (Nat.le_refl _) _
 have hsx : wx.heap.size = w.heap.size + 1 := by rw [hwx]; simp
 have k0 : Blk wx w.heap.size 24 #[.int .i64 br, .slice lA ln lc, .int .i64 tk, .slice mA mn mc, .int .i64 cp] := by rw [hwx]; exact Blk.new w 24 _
 have q0 : ∀ W, Below wx.heap.size wx W → W.cell? ⟨w.heap.size, 0, none⟩ = some (.int .i64 br) := fun W hW => (hW.cell (p := ⟨w.heap.size, 0, none⟩) (Blk.lt k0)).trans (Blk.cell k0 0)
 have q1 : ∀ W, Below wx.heap.size wx W → W.cell? ⟨w.heap.size, 1, none⟩ = some (.slice lA ln lc) := fun W hW => (hW.cell (p := ⟨w.heap.size, 1, none⟩) (Blk.lt k0)).trans (Blk.cell k0 1)
 have q2 : ∀ W, Below wx.heap.size wx W → W.cell? ⟨w.heap.size, 2, none⟩ = some (.int .i64 tk) := fun W hW => (hW.cell (p := ⟨w.heap.size, 2, none⟩) (Blk.lt k0)).trans (Blk.cell k0 2)
 have q3 : ∀ W, Below wx.heap.size wx W → W.cell? ⟨w.heap.size, 3, none⟩ = some (.slice mA mn mc) := fun W hW => (hW.cell (p := ⟨w.heap.size, 3, none⟩) (Blk.lt k0)).trans (Blk.cell k0 3)
 have q4 : ∀ W, Below wx.heap.size wx W → W.cell? ⟨w.heap.size, 4, none⟩ = some (.int .i64 cp) := fun W hW => (hW.cell (p := ⟨w.heap.size, 4, none⟩) (Blk.lt k0)).trans (Blk.cell k0 4)
 have HBX := hide hbx
 have HWX := hide hwx
 have HSX := hide hsx
 have H1' := hide (zAa H1 wx hbx)
 have hz0 : Below wx.heap.size wx wx := Below.refl _ _
 clear hbx hwx hsx k0 H1
 cases hcf : zAh cfg with
 | false =>
  have HF := hide (show zHh cfg (l.map (·.d)) some_ = ([], 4) by unfold zHh; rw [if_pos hcf])
  rw [hcf] at H1'
  clear hcf hz0
  go_enter Tryz.func33, Tryz.ntmps33
  go_wp2_with fail
  rw [← zAa HWX]
  refine (zAa H1').mono ?_
  rintro _ w1 ⟨rfl, hb1⟩
  have HB1 := hide ((zAa HBX).trans (hb1.mono (zAa HBX).size))
  clear hb1
  go_wp2_with fail
  go_ret2
  rw [zAa HF]
  exact zJx (zAa HB1)
 | true =>
  rw [hcf] at H1'
  obtain ⟨hbr1, hbr8⟩ := zAa HBR hcf
  obtain ⟨b, rfl⟩ := Int.eq_ofNat_of_zero_le (show 0 ≤ br by omega)
  have hp : (2:Nat) ^ b ≤ 256 := Nat.pow_le_pow_right (n := 2) (by omega) (show b ≤ 8 by omega)
  have hp' : ((2 ^ b : Nat) : Int) = (2 : Int) ^ b := by simp
  have HV := hide (show zHh cfg (l.map (·.d)) some_ = if some_ < 0 ∨ (2 : Int) ^ b ≤ some_ then ([], 2) else ((l.map (·.d)).map (zEc b some_.toNat), 0) by
   unfold zHh; rw [if_neg (by rw [hcf]; simp), zAa HCBR]; rfl)
  clear hcf hz0
  cases hmay : mayB some_ with
  | false =>
   have HF := hide (show zHh cfg (l.map (·.d)) some_ = ([], 2) by
    rw [zAa HV, if_pos]
    unfold mayB at hmay
    have h1 : ¬ (0 ≤ some_ ∧ some_ ≤ 255) := of_decide_eq_false hmay
    rw [← hp']
    omega)
   rw [hmay] at H2
   clear hmay
   go_enter Tryz.func33, Tryz.ntmps33
   go_wp2_with fail
   rw [← zAa HWX]
   refine (zAa H1').mono ?_
   rintro _ w1 ⟨rfl, hb1⟩
   have hz1 : Below wx.heap.size wx w1 := hb1
   have HB1 := hide ((zAa HBX).trans (hb1.mono (zAa HBX).size))
   clear hb1
   go_wp2_with fail
   refine (zAa H2 _).mono ?_
   rintro _ _ ⟨rfl, rfl⟩
   go_wp2_with fail
   go_ret2
   rw [zAa HF]
   exact zJx (zAa HB1)
  | true =>
   rw [hmay] at H2
   have hs2 : 0 ≤ some_ ∧ some_ ≤ 255 := by simpa [mayB] using hmay
   obtain ⟨s, rfl⟩ := Int.eq_ofNat_of_zero_le hs2.1
   have hs : s ≤ 255 := by omega
   have HSHR := hide (zYv s b)
   clear hmay hs2
   by_cases hbig : 2 ^ b ≤ s
   ·have HF := hide (show zHh cfg (l.map (·.d)) s = ([], 2) by rw [zAa HV, if_pos (by rw [← hp']; omega)])
    have hd : decide ((0 : Int) < (s : Int) / 2 ^ b) = true := by rw [zAa HSHR]; exact decide_eq_true hbig
    have hd2 : (0 : Int) < (s : Int) / 2 ^ b := of_decide_eq_true hd
    clear hd
    go_enter Tryz.func33, Tryz.ntmps33
    go_wp2_with fail
    rw [← zAa HWX]
    refine (zAa H1').mono ?_
    rintro _ w1 ⟨rfl, hb1⟩
    have hz1 : Below wx.heap.size wx w1 := hb1
    have HB1 := hide ((zAa HBX).trans (hb1.mono (zAa HBX).size))
    clear hb1
    go_wp2_with fail
    refine (zAa H2 _).mono ?_
    rintro _ _ ⟨rfl, rfl⟩
    go_wp2_with fail
    go_ret2
    rw [zAa HF]
    exact zJx (zAa HB1)
   have HF := hide (show zHh cfg (l.map (·.d)) s = ((l.map (·.d)).map (zEc b s), 0) by rw [zAa HV, if_neg (by rw [← hp']; omega)]; rfl)
   have hd : decide ((0 : Int) < (s : Int) / 2 ^ b) = false := by rw [zAa HSHR]; exact decide_eq_false hbig
   have hd2 : (s : Int) / 2 ^ b ≤ 0 := by have := of_decide_eq_false hd; omega
   go_enter Tryz.func33, Tryz.ntmps33
   go_wp2_with fail
   rw [← zAa HWX]
   refine (zAa H1').mono ?_
   rintro _ w1 ⟨rfl, hb1⟩
   have hz1 : Below wx.heap.size wx w1 := hb1
   have HB1 := hide ((zAa HBX).trans (hb1.mono (zAa HBX).size))
   clear hb1
   go_wp2_with fail
   refine (zAa H2 _).mono ?_
   rintro _ _ ⟨rfl, rfl⟩
   go_wp2_with fail
   have hnn : n ≤ 9223372036854775807 := by unfold maxLen at hcm; omega
   have HB2 := hide hz1
   have HW0 := hide (show w.heap.size ≤ wx.heap.size from (zAa HBX).size)
   clear hz1
   go_loopw [8, 29] (fun v i wr => ∃ (k : Nat) (outs : List Tol), k ≤ n ∧ i = .int .i64 k ∧ Hid (OutT wr wx.heap.size v outs) ∧ Hid (outs.map (·.d) = (l.take k).map fun t => zEc b s t.d) ∧ Below wx.heap.size wx wr) (fun _ i _ => n - (intOf i).toNat)
   case atStart => exact ⟨0, [], Nat.zero_le _, rfl, OutT.nil _ _, rfl, zAa HB2⟩
   case round =>
    obtain ⟨k, outs, hk, rfl, HO, HM, hzr⟩ := hrel
    have hwr : w.heap.size ≤ wr.heap.size := Nat.le_trans (zAa HW0) hzr.size
    have HBW := hide ((zAa HBX).trans (hzr.mono (zAa HW0)))
    obtain ⟨A0, cA0, hv0, _, _, _, _⟩ := (zAa HO).at_
    subst hv0
    by_cases hlt : k < n
    ·obtain ⟨bl, o, t, rfl, hbl, ht, hc⟩ := zCf Tol.cells_len (by omega) ((zAa HR).below (zAa HBW)) hlt (zAa HL)
     have hok := (zAa HOK t (List.mem_of_getElem? ht)).1.below (zAa HBW)
     have hft := (zAa HOK t (List.mem_of_getElem? ht)).2
     have HT := hide ht
     obtain ⟨⟨code, who, ⟨q0, q1, q2, q3, q4⟩, value, sent, frame, report⟩, sA, sn, sc, fA, fn, fc, rA, rn, rc⟩ := t
     obtain ⟨sl, sc1, sm, sr, fl, fc1, fm, fr, rl, rc1, rm, rr⟩ := hok
     obtain ⟨f1, f2, f3⟩ := hft
     dsimp only at sl sc1 sm sr fl fc1 fm fr rl rc1 rm rr f1 f2 f3
     have c0 := hc 0 _ rfl
     have c1 := hc 1 _ rfl
     have c2 := hc 2 _ rfl
     have c3 := hc 3 _ rfl
     have c4 := hc 4 _ rfl
     have c5 := hc 5 _ rfl
     have c6 := hc 6 _ rfl
     have c7 := hc 7 _ rfl
     have c8 := hc 8 _ rfl
     have c9 := hc 9 _ rfl
     have c10 := hc 10 _ rfl
     simp only [Nat.add_zero] at c0
     dsimp only at c0 c1 c2 c3 c4 c5 c6 c7 c8 c9 c10
     obtain ⟨wy, hwy⟩ : ∃ wy, wy = wr.alloc (.cells #[.int .i64 code, .int .i64 who, .int .i64 q0, .int .i64 q1, .int .i64 q2, .int .i64 q3, .int .i64 q4, .int .i64 value, .slice sA sn sc, .slice fA fn fc, .slice rA rn rc] 57) := ⟨_, rfl⟩
     have hby : Below wr.heap.size wr wy := by rw [hwy]; exact (Below.refl _ _).alloc (Nat.le_refl _) _
     have hsy : wy.heap.size = wr.heap.size + 1 := by rw [hwy]; simp
     have k1 : Blk wy wr.heap.size 57 #[.int .i64 code, .int .i64 who, .int .i64 q0, .int .i64 q1, .int .i64 q2, .int .i64 q3, .int .i64 q4, .int .i64 value, .slice sA sn sc, .slice fA fn fc, .slice rA rn rc] := by rw [hwy]; exact Blk.new wr 57 _
     have r0 : ∀ W, Below wy.heap.size wy W → W.cell? ⟨wr.heap.size, 0, none⟩ = some (.int .i64 code) := fun W hW => (hW.cell (p := ⟨wr.heap.size, 0, none⟩) (Blk.lt k1)).trans (Blk.cell k1 0)
     have r1 : ∀ W, Below wy.heap.size wy W → W.cell? ⟨wr.heap.size, 1, none⟩ = some (.int .i64 who) := fun W hW => (hW.cell (p := ⟨wr.heap.size, 1, none⟩) (Blk.lt k1)).trans (Blk.cell k1 1)
     have r2 : ∀ W, Below wy.heap.size wy W → W.cell? ⟨wr.heap.size, 2, none⟩ = some (.int .i64 q0) := fun W hW => (hW.cell (p := ⟨wr.heap.size, 2, none⟩) (Blk.lt k1)).trans (Blk.cell k1 2)
     have r3 : ∀ W, Below wy.heap.size wy W → W.cell? ⟨wr.heap.size, 3, none⟩ = some (.int .i64 q1) := fun W hW => (hW.cell (p := ⟨wr.heap.size, 3, none⟩) (Blk.lt k1)).trans (Blk.cell k1 3)
     have r4 : ∀ W, Below wy.heap.size wy W → W.cell? ⟨wr.heap.size, 4, none⟩ = some (.int .i64 q2) := fun W hW => (hW.cell (p := ⟨wr.heap.size, 4, none⟩) (Blk.lt k1)).trans (Blk.cell k1 4)
     have r5 : ∀ W, Below wy.heap.size wy W → W.cell? ⟨wr.heap.size, 5, none⟩ = some (.int .i64 q3) := fun W hW => (hW.cell (p := ⟨wr.heap.size, 5, none⟩) (Blk.lt k1)).trans (Blk.cell k1 5)
     have r6 : ∀ W, Below wy.heap.size wy W → W.cell? ⟨wr.heap.size, 6, none⟩ = some (.int .i64 q4) := fun W hW => (hW.cell (p := ⟨wr.heap.size, 6, none⟩) (Blk.lt k1)).trans (Blk.cell k1 6)
     have r7 : ∀ W, Below wy.heap.size wy W → W.cell? ⟨wr.heap.size, 7, none⟩ = some (.int .i64 value) := fun W hW => (hW.cell (p := ⟨wr.heap.size, 7, none⟩) (Blk.lt k1)).trans (Blk.cell k1 7)
     have r8 : ∀ W, Below wy.heap.size wy W → W.cell? ⟨wr.heap.size, 8, none⟩ = some (.slice sA sn sc) := fun W hW => (hW.cell (p := ⟨wr.heap.size, 8, none⟩) (Blk.lt k1)).trans (Blk.cell k1 8)
     have r9 : ∀ W, Below wy.heap.size wy W → W.cell? ⟨wr.heap.size, 9, none⟩ = some (.slice fA fn fc) := fun W hW => (hW.cell (p := ⟨wr.heap.size, 9, none⟩) (Blk.lt k1)).trans (Blk.cell k1 9)
     have r10 : ∀ W, Below wy.heap.size wy W → W.cell? ⟨wr.heap.size, 10, none⟩ = some (.slice rA rn rc) := fun W hW => (hW.cell (p := ⟨wr.heap.size, 10, none⟩) (Blk.lt k1)).trans (Blk.cell k1 10)
     have HCE := hide (fun W (hW : Below wy.heap.size wy W) => yBn sA sn sc _ w.heap.size W (envs_one sent) (by omega) (sr.below ((hby.trans (hW.mono hby.size)).mono hwr)) (Nat.le_trans hwr (Nat.le_trans hby.size hW.size)))
     have HCB := hide (fun W (hW : Below wy.heap.size wy W) => zMc fA fn fc _ w.heap.size W (zSe .u8 frame) (by omega) (fr.below ((hby.trans (hW.mono hby.size)).mono hwr)) (Nat.le_trans hwr (Nat.le_trans hby.size hW.size)))
     have HCI := hide (fun W (hW : Below wy.heap.size wy W) => yAo rA rn rc _ w.heap.size W (zSe .i64 report) (by omega) (rr.below ((hby.trans (hW.mono hby.size)).mono hwr)) (Nat.le_trans hwr (Nat.le_trans hby.size hW.size)))
     have hkn : (k : Int) < (n : Int) := by omega
     have HWY := hide hwy
     have HBY := hide hby
     have HSY := hide hsy
     have hzy : Below wy.heap.size wy wy := Below.refl _ _
     clear ht hc hby hwy hsy k1 sl sc1 sm sr fl fc1 fm fr rl rc1 rm rr
     go_upto_region 9 with fail
     rw [← zAa HWY]
     go_cut [11] (fun s11 W11 => Hid (CutV wx.heap.size who sent report sn rn wy s11 W11))
     case first =>
      have x1 := fun n : Ext wy => r1 n.W n.h
      have x8 := fun n : Ext wy => r8 n.W n.h
      have x10 := fun n : Ext wy => r10 n.W n.h
      refine zHu [] [0, 1, 2, 3, 5, 6] [4, 7, 8, 9] 10 [] treeV (by kernel_rfl) (by kernel_rfl) (by intro c a d v w h; cases d <;> exact h) ?_
      simp only [zAb, List.map_cons, List.map_nil, List.getD_cons_zero, List.getD_cons_succ]
      refine wpQuiet_nil ?_
      repeat (go_big_quiet_step (fail))
      refine wpQuiet_nil ?_
      unfold treeV
      obtain ⟨wd, hwd⟩ : ∃ wd, wd = wy.drew := ⟨_, rfl⟩
      have hd0 : Below wy.heap.size wy wd := by rw [hwd]; exact (Below.refl _ _).drew
      have hsz1 : wx.heap.size ≤ wy.heap.size := Nat.le_trans hzr.size (zAa HBY).size
      have hsz2 := hd0.size
      rw [← hwd]
      clear hwd
      refine zAm ?_ ?_
      ·refine zAc fun K hK => ?_
       simp only [zAb, List.map_cons, List.map_nil, List.getD_cons_zero, List.getD_cons_succ]
       go_wp2_with fail
       refine (zAa HCE _ hd0).mono ?_
       rintro _ w2 ⟨v2, rfl, ho2, hb2⟩
       obtain ⟨A2, c2, rfl, _⟩ := zAf ho2
       have hk2 : Below wy.heap.size wy w2 := hd0.trans (hb2.mono hd0.size)
       have hz2 := hk2.size
       go_wp2_with fail
       refine hK _ _ (fun _ => ⟨⟨_, hk2⟩, rfl⟩) ?_
       clear hK K
       refine zAm ?_ ?_
       ·refine zAc fun K hK => ?_
        simp only [zAb, List.map_cons, List.map_nil, List.getD_cons_zero, List.getD_cons_succ]
        go_wp2_with fail
        refine (zAa HCI _ hk2).mono ?_
        rintro _ w3 ⟨v3, rfl, ho3, hb3⟩
        obtain ⟨A3, c3, rfl, _⟩ := zAf ho3
        have hk3 : Below wy.heap.size wy w3 := hk2.trans (hb3.mono hk2.size)
        have hz3 := hk3.size
        go_wp2_with fail
        refine hK _ _ (fun _ => ⟨⟨_, hk3⟩, rfl⟩) ?_
        clear hK K
        have ho2' := zAi ho2 hb3
        refine zAm ?_ ?_
        ·refine zAc fun K hK => ?_
         simp only [zAb, List.map_cons, List.map_nil, List.getD_cons_zero, List.getD_cons_succ]
         go_wp2_with fail
         refine hK _ _ (fun _ => ⟨⟨_, hk3⟩, rfl⟩) ?_
         clear hK K
         refine zAc fun K hK => ?_
         simp only [zAb, List.map_cons, List.map_nil, List.getD_cons_zero, List.getD_cons_succ]
         go_wp2_with fail
         refine hK _ _ (fun _ => ⟨⟨_, hk3.alloc hk3.size _⟩, rfl⟩) ?_
         clear hK K
         have HFIN := hide (cutV_new (base := wx.heap.size) (who := who) (w3 := w3) ho2' ho3 hk3 (by omega) (by omega))
         refine zAc fun K hK => ?_
         simp only [zAb, List.map_cons, List.map_nil, List.getD_cons_zero, List.getD_cons_succ]
         go_wp2_with fail
         refine hK _ _ (fun h => absurd h (by decide)) ?_
         clear hK K
         refine zBg ?_
         go_wp2_with fail
         go_meet
         exact HFIN
        ·refine zAc fun K hK => ?_
         simp only [zAb, List.map_cons, List.map_nil, List.getD_cons_zero, List.getD_cons_succ]
         go_wp2_with fail
         obtain ⟨wa, hwa⟩ : ∃ wa, wa = w3.alloc (.cells #[.int .i64 0, .int .i64 0, .int .i64 0, .int .i64 0, .int .i64 0, .int .i64 0, .int .i64 0, .int .i64 0, .slice none 0 0, .slice none 0 0, .slice none 0 0] 57) := ⟨_, rfl⟩
         have hka : Below wy.heap.size wy wa := by rw [hwa]; exact hk3.alloc hk3.size _
         have hza := hka.size
         have hwab : Below w3.heap.size w3 wa := by rw [hwa]; exact (Below.refl _ _).alloc (Nat.le_refl _) _
         have kp : Blk wa w3.heap.size 57 #[.int .i64 0, .int .i64 0, .int .i64 0, .int .i64 0, .int .i64 0, .int .i64 0, .int .i64 0, .int .i64 0, .slice none 0 0, .slice none 0 0, .slice none 0 0] := by rw [hwa]; exact Blk.new _ 57 _
         have hp : wy.heap.size ≤ w3.heap.size := hk3.size
         rw [← hwa]
         refine hK _ _ (fun _ => ⟨⟨_, hka⟩, rfl⟩) ?_
         clear hK K hwa
         refine zAc fun K hK => ?_
         simp only [zAb, List.map_cons, List.map_nil, List.getD_cons_zero, List.getD_cons_succ]
         go_wp2_with fail
         refine hK _ _ (fun _ => ⟨⟨_, hka⟩, rfl⟩) ?_
         clear hK K
         have z0 := kp.cell 0
         have y0 := kp.frozen 0
         have z1 := kp.cell 1
         have y1 := kp.frozen 1
         have z2 := kp.cell 2
         have y2 := kp.frozen 2
         have z3 := kp.cell 3
         have y3 := kp.frozen 3
         have z4 := kp.cell 4
         have y4 := kp.frozen 4
         have z5 := kp.cell 5
         have y5 := kp.frozen 5
         have z6 := kp.cell 6
         have y6 := kp.frozen 6
         have z7 := kp.cell 7
         have y7 := kp.frozen 7
         have z8 := kp.cell 8
         have y8 := kp.frozen 8
         have z9 := kp.cell 9
         have y9 := kp.frozen 9
         have z10 := kp.cell 10
         have y10 := kp.frozen 10
         have HFIN := hide (zRt (base := wx.heap.size) (who := who) kp (zAi ho2' hwab) (zAi ho3 hwab) hka hp (by omega) (by omega))
         refine zAc fun K hK => ?_
         simp only [zAb, List.map_cons, List.map_nil, List.getD_cons_zero, List.getD_cons_succ]
         go_wp2_with fail
         refine hK _ _ (fun h => absurd h (by decide)) ?_
         clear hK K
         refine zBg ?_
         go_wp2_with fail
         go_meet
         exact HFIN
       ·refine zAc fun K hK => ?_
        simp only [zAb, List.map_cons, List.map_nil, List.getD_cons_zero, List.getD_cons_succ]
        go_wp2_with fail
        obtain ⟨wa, hwa⟩ : ∃ wa, wa = w2.alloc (.cells #[.int .i64 0, .int .i64 0, .int .i64 0, .int .i64 0, .int .i64 0, .int .i64 0, .int .i64 0, .int .i64 0, .slice none 0 0, .slice none 0 0, .slice none 0 0] 57) := ⟨_, rfl⟩
        have hka : Below wy.heap.size wy wa := by rw [hwa]; exact hk2.alloc hk2.size _
        have hza := hka.size
        have hwab : Below w2.heap.size w2 wa := by rw [hwa]; exact (Below.refl _ _).alloc (Nat.le_refl _) _
        have kp : Blk wa w2.heap.size 57 #[.int .i64 0, .int .i64 0, .int .i64 0, .int .i64 0, .int .i64 0, .int .i64 0, .int .i64 0, .int .i64 0, .slice none 0 0, .slice none 0 0, .slice none 0 0] := by rw [hwa]; exact Blk.new _ 57 _
        have hp : wy.heap.size ≤ w2.heap.size := hk2.size
        rw [← hwa]
        refine hK _ _ (fun _ => ⟨⟨_, hka⟩, rfl⟩) ?_
        clear hK K hwa
        refine zAc fun K hK => ?_
        simp only [zAb, List.map_cons, List.map_nil, List.getD_cons_zero, List.getD_cons_succ]
        go_wp2_with fail
        refine (zAa HCI _ hka).mono ?_
        rintro _ w3 ⟨v3, rfl, ho3, hb3⟩
        obtain ⟨A3, c3, rfl, _⟩ := zAf ho3
        have hk3 : Below wy.heap.size wy w3 := hka.trans (hb3.mono hka.size)
        have hz3 := hk3.size
        go_wp2_with fail
        refine hK _ _ (fun _ => ⟨⟨_, hk3⟩, rfl⟩) ?_
        clear hK K
        refine zAc fun K hK => ?_
        simp only [zAb, List.map_cons, List.map_nil, List.getD_cons_zero, List.getD_cons_succ]
        go_wp2_with fail
        refine hK _ _ (fun _ => ⟨⟨_, hk3⟩, rfl⟩) ?_
        clear hK K
        have kp3 := Blk.below kp hb3 kp.lt
        have z0 := kp3.cell 0
        have y0 := kp3.frozen 0
        have z1 := kp3.cell 1
        have y1 := kp3.frozen 1
        have z2 := kp3.cell 2
        have y2 := kp3.frozen 2
        have z3 := kp3.cell 3
        have y3 := kp3.frozen 3
        have z4 := kp3.cell 4
        have y4 := kp3.frozen 4
        have z5 := kp3.cell 5
        have y5 := kp3.frozen 5
        have z6 := kp3.cell 6
        have y6 := kp3.frozen 6
        have z7 := kp3.cell 7
        have y7 := kp3.frozen 7
        have z8 := kp3.cell 8
        have y8 := kp3.frozen 8
        have z9 := kp3.cell 9
        have y9 := kp3.frozen 9
        have z10 := kp3.cell 10
        have y10 := kp3.frozen 10
        have HFIN := hide (zRt (base := wx.heap.size) (who := who) kp3 (zAi (zAi ho2 hwab) hb3) ho3 hk3 hp (by omega) (by omega))
        refine zAc fun K hK => ?_
        simp only [zAb, List.map_cons, List.map_nil, List.getD_cons_zero, List.getD_cons_succ]
        go_wp2_with fail
        refine hK _ _ (fun h => absurd h (by decide)) ?_
        clear hK K
        refine zBg ?_
        go_wp2_with fail
        go_meet
        exact HFIN
      ·refine zAc fun K hK => ?_
       simp only [zAb, List.map_cons, List.map_nil, List.getD_cons_zero, List.getD_cons_succ]
       go_wp2_with fail
       obtain ⟨wa, hwa⟩ : ∃ wa, wa = wd.alloc (.cells #[.int .i64 0, .int .i64 0, .int .i64 0, .int .i64 0, .int .i64 0, .int .i64 0, .int .i64 0, .int .i64 0, .slice none 0 0, .slice none 0 0, .slice none 0 0] 57) := ⟨_, rfl⟩
       have hka : Below wy.heap.size wy wa := by rw [hwa]; exact hd0.alloc hd0.size _
       have hza := hka.size
       have hwab : Below wd.heap.size wd wa := by rw [hwa]; exact (Below.refl _ _).alloc (Nat.le_refl _) _
       have kp : Blk wa wd.heap.size 57 #[.int .i64 0, .int .i64 0, .int .i64 0, .int .i64 0, .int .i64 0, .int .i64 0, .int .i64 0, .int .i64 0, .slice none 0 0, .slice none 0 0, .slice none 0 0] := by rw [hwa]; exact Blk.new _ 57 _
       have hp : wy.heap.size ≤ wd.heap.size := hd0.size
       rw [← hwa]
       refine hK _ _ (fun _ => ⟨⟨_, hka⟩, rfl⟩) ?_
       clear hK K hwa
       refine zAc fun K hK => ?_
       simp only [zAb, List.map_cons, List.map_nil, List.getD_cons_zero, List.getD_cons_succ]
       go_wp2_with fail
       refine (zAa HCE _ hka).mono ?_
       rintro _ w2 ⟨v2, rfl, ho2, hb2⟩
       obtain ⟨A2, c2, rfl, _⟩ := zAf ho2
       have hk2 : Below wy.heap.size wy w2 := hka.trans (hb2.mono hka.size)
       have hz2 := hk2.size
       go_wp2_with fail
       refine hK _ _ (fun _ => ⟨⟨_, hk2⟩, rfl⟩) ?_
       clear hK K
       refine zAc fun K hK => ?_
       simp only [zAb, List.map_cons, List.map_nil, List.getD_cons_zero, List.getD_cons_succ]
       go_wp2_with fail
       refine (zAa HCI _ hk2).mono ?_
       rintro _ w3 ⟨v3, rfl, ho3, hb3⟩
       obtain ⟨A3, c3, rfl, _⟩ := zAf ho3
       have hk3 : Below wy.heap.size wy w3 := hk2.trans (hb3.mono hk2.size)
       have hz3 := hk3.size
       go_wp2_with fail
       refine hK _ _ (fun _ => ⟨⟨_, hk3⟩, rfl⟩) ?_
       clear hK K
       refine zAc fun K hK => ?_
       simp only [zAb, List.map_cons, List.map_nil, List.getD_cons_zero, List.getD_cons_succ]
       go_wp2_with fail
       refine hK _ _ (fun _ => ⟨⟨_, hk3⟩, rfl⟩) ?_
       clear hK K
       have kp3 := Blk.below (Blk.below kp hb2 kp.lt) hb3 (Nat.lt_of_lt_of_le kp.lt hb2.size)
       have z0 := kp3.cell 0
       have y0 := kp3.frozen 0
       have z1 := kp3.cell 1
       have y1 := kp3.frozen 1
       have z2 := kp3.cell 2
       have y2 := kp3.frozen 2
       have z3 := kp3.cell 3
       have y3 := kp3.frozen 3
       have z4 := kp3.cell 4
       have y4 := kp3.frozen 4
       have z5 := kp3.cell 5
       have y5 := kp3.frozen 5
       have z6 := kp3.cell 6
       have y6 := kp3.frozen 6
       have z7 := kp3.cell 7
       have y7 := kp3.frozen 7
       have z8 := kp3.cell 8
       have y8 := kp3.frozen 8
       have z9 := kp3.cell 9
       have y9 := kp3.frozen 9
       have z10 := kp3.cell 10
       have y10 := kp3.frozen 10
       have HFIN := hide (zRt (base := wx.heap.size) (who := who) kp3 (zAi ho2 hb3) ho3 hk3 hp (by omega) (by omega))
       refine zAc fun K hK => ?_
       simp only [zAb, List.map_cons, List.map_nil, List.getD_cons_zero, List.getD_cons_succ]
       go_wp2_with fail
       refine hK _ _ (fun h => absurd h (by decide)) ?_
       clear hK K
       refine zBg ?_
       go_wp2_with fail
       go_meet
       exact HFIN
     case rest =>
      obtain ⟨p, A2, c2, A3, c3, rfl, kp, ho2, ho3, hbc, hp⟩ := zAa hcut
      have hzc : Below wx.heap.size wx wc := hzr.trans (((zAa HBY).trans (hbc.mono (zAa HBY).size)).mono hzr.size)
      have hbrc : Below wr.heap.size wr wc := (zAa HBY).trans (hbc.mono (zAa HBY).size)
      have m0 := kp.cell 0
      have m1 := kp.cell 1
      have m2 := kp.cell 2
      have m3 := kp.cell 3
      have m4 := kp.cell 4
      have m5 := kp.cell 5
      have m6 := kp.cell 6
      have m7 := kp.cell 7
      have m8 := kp.cell 8
      have m9 := kp.cell 9
      have m10 := kp.cell 10
      have HKP := hide kp
      have HO2 := hide ho2
      have HO3 := hide ho3
      have HBC := hide hbc
      have HZC := hide hzc
      have HBRC := hide hbrc
      clear hcut kp ho2 ho3 hbrc
      have HOC := hide ((zAa HO).below (zAa HBRC))
      have HLEN := hide (outT_len (zAa HM) (by rw [zAa HL]; omega))
      have hwc2 : wx.heap.size ≤ wc.heap.size := hzc.size
      by_cases hw1 : who < 0
      ·have hd1 : decide (0 ≤ who) = false := decide_eq_false (by omega)
       have HMI := hide (show zFs b s who = false by unfold zFs; rw [hd1]; rfl)
       have HMK := hide (show zEc b s ⟨code, who, ⟨q0, q1, q2, q3, q4⟩, value, sent, frame, report⟩ = ⟨0, who, Stk.none, 0, sent, [], report⟩ from if_neg (by rw [zAa HMI]; decide))
       have HTO := hide (show TolOwn (⟨⟨0, who, Stk.none, 0, sent, [], report⟩, A2, sn, c2, none, 0, 0, A3, rn, c3⟩ : Tol) wc wx.heap.size from ⟨zAa HO2, World.ownsRow_nil _ _ _ _, zAa HO3⟩)
       have HMC := hide (show (outs ++ [(⟨⟨0, who, Stk.none, 0, sent, [], report⟩, A2, sn, c2, none, 0, 0, A3, rn, c3⟩ : Tol)]).map (·.d) = (l.take (k + 1)).map fun t => zEc b s t.d by
        rw [zBp l k _ (zAa HT), List.map_append, List.map_append, zAa HM]
        congr 1
        exact congrArg (fun x => [x]) (zAa HMK).symm)
       go_wp2_with (first
        | (at_builtin; (refine zAl _ rfl (.tmp 71) (.tmp 73) _ rfl wx.heap.size 57 it _ 11 136 Tryz.underlying26 hit ht0 ht1 ht2 rfl (by omega) (by omega) _ _ _ (zAa HOC).1 rfl _ 1 _ rfl rfl rfl (by simp [Value.oneCell']) (by rw [zAa HLEN]; omega) hwc2 ?_); intro g4 cap4 w4 hg4 hown4 hbel4 hgr4 hat4))
       have HO4 := hide ((zAa HOC).push (zAa HTO) hgr4 hown4)
       have HB4 := hide (hbel4 wx.heap.size wx (Nat.le_refl _) (zAa HZC))
       clear hown4 hbel4 hgr4 hat4 hg4
       go_roundw
       case rel => exact ⟨k + 1, _, by omega, by go_num, HO4, HMC, zAa HB4⟩
       case measure => simp [intOf]; omega
      have hd1 : decide (0 ≤ who) = true := decide_eq_true (by omega)
      by_cases hw2 : (b : Int) ≤ who
      ·have hd2 : decide (who < (b : Int)) = false := decide_eq_false (by omega)
       have HMI := hide (show zFs b s who = false by unfold zFs; rw [hd2, hd1]; rfl)
       have HMK := hide (show zEc b s ⟨code, who, ⟨q0, q1, q2, q3, q4⟩, value, sent, frame, report⟩ = ⟨0, who, Stk.none, 0, sent, [], report⟩ from if_neg (by rw [zAa HMI]; decide))
       have HTO := hide (show TolOwn (⟨⟨0, who, Stk.none, 0, sent, [], report⟩, A2, sn, c2, none, 0, 0, A3, rn, c3⟩ : Tol) wc wx.heap.size from ⟨zAa HO2, World.ownsRow_nil _ _ _ _, zAa HO3⟩)
       have HMC := hide (show (outs ++ [(⟨⟨0, who, Stk.none, 0, sent, [], report⟩, A2, sn, c2, none, 0, 0, A3, rn, c3⟩ : Tol)]).map (·.d) = (l.take (k + 1)).map fun t => zEc b s t.d by
        rw [zBp l k _ (zAa HT), List.map_append, List.map_append, zAa HM]
        congr 1
        exact congrArg (fun x => [x]) (zAa HMK).symm)
       go_wp2_with (first
        | (at_builtin; (refine zAl _ rfl (.tmp 71) (.tmp 73) _ rfl wx.heap.size 57 it _ 11 136 Tryz.underlying26 hit ht0 ht1 ht2 rfl (by omega) (by omega) _ _ _ (zAa HOC).1 rfl _ 1 _ rfl rfl rfl (by simp [Value.oneCell']) (by rw [zAa HLEN]; omega) hwc2 ?_); intro g4 cap4 w4 hg4 hown4 hbel4 hgr4 hat4))
       have HO4 := hide ((zAa HOC).push (zAa HTO) hgr4 hown4)
       have HB4 := hide (hbel4 wx.heap.size wx (Nat.le_refl _) (zAa HZC))
       clear hown4 hbel4 hgr4 hat4 hg4
       go_roundw
       case rel => exact ⟨k + 1, _, by omega, by go_num, HO4, HMC, zAa HB4⟩
       case measure => simp [intOf]; omega
      have hd2 : decide (who < (b : Int)) = true := decide_eq_true (by omega)
      obtain ⟨u, rfl⟩ := Int.eq_ofNat_of_zero_le (show 0 ≤ who by omega)
      have hu : u ≤ 8 := by omega
      have hub : u < b := by omega
      have hd3 : decide (u < b) = true := decide_eq_true hub
      have HIN := hide (fun W => yCc s u hs hu W)
      cases hbit : s.testBit u with
      | false =>
       have HMI := hide (show zFs b s (u : Int) = false by unfold zFs; rw [hd1, hd2, Int.toNat_natCast, hbit]; rfl)
       rw [hbit] at HIN
       clear hbit hw1 hw2
       go_wp2_with fail
       refine (zAa HIN _).mono ?_
       rintro _ _ ⟨rfl, rfl⟩
       have HMK := hide (show zEc b s ⟨code, (u : Int), ⟨q0, q1, q2, q3, q4⟩, value, sent, frame, report⟩ = ⟨0, (u : Int), Stk.none, 0, sent, [], report⟩ from if_neg (by rw [zAa HMI]; decide))
       have HTO := hide (show TolOwn (⟨⟨0, (u : Int), Stk.none, 0, sent, [], report⟩, A2, sn, c2, none, 0, 0, A3, rn, c3⟩ : Tol) wc wx.heap.size from ⟨zAa HO2, World.ownsRow_nil _ _ _ _, zAa HO3⟩)
       have HMC := hide (show (outs ++ [(⟨⟨0, (u : Int), Stk.none, 0, sent, [], report⟩, A2, sn, c2, none, 0, 0, A3, rn, c3⟩ : Tol)]).map (·.d) = (l.take (k + 1)).map fun t => zEc b s t.d by
        rw [zBp l k _ (zAa HT), List.map_append, List.map_append, zAa HM]
        congr 1
        exact congrArg (fun x => [x]) (zAa HMK).symm)
       go_wp2_with (first
        | (at_builtin; (refine zAl _ rfl (.tmp 71) (.tmp 73) _ rfl wx.heap.size 57 it _ 11 136 Tryz.underlying26 hit ht0 ht1 ht2 rfl (by omega) (by omega) _ _ _ (zAa HOC).1 rfl _ 1 _ rfl rfl rfl (by simp [Value.oneCell']) (by rw [zAa HLEN]; omega) hwc2 ?_); intro g4 cap4 w4 hg4 hown4 hbel4 hgr4 hat4))
       have HO4 := hide ((zAa HOC).push (zAa HTO) hgr4 hown4)
       have HB4 := hide (hbel4 wx.heap.size wx (Nat.le_refl _) (zAa HZC))
       clear hown4 hbel4 hgr4 hat4 hg4
       go_roundw
       case rel => exact ⟨k + 1, _, by omega, by go_num, HO4, HMC, zAa HB4⟩
       case measure => simp [intOf]; omega
      | true =>
       have HMI := hide (show zFs b s (u : Int) = true by unfold zFs; rw [hd1, hd2, Int.toNat_natCast, hbit]; rfl)
       rw [hbit] at HIN
       clear hbit hw1 hw2
       go_wp2_with fail
       refine (zAa HIN _).mono ?_
       rintro _ _ ⟨rfl, rfl⟩
       go_wp2_with fail
       have y0 := fun n : Ext wy => r0 n.W n.h
       have y2 := fun n : Ext wy => r2 n.W n.h
       have y3 := fun n : Ext wy => r3 n.W n.h
       have y4 := fun n : Ext wy => r4 n.W n.h
       have y5 := fun n : Ext wy => r5 n.W n.h
       have y6 := fun n : Ext wy => r6 n.W n.h
       have y7 := fun n : Ext wy => r7 n.W n.h
       have y9 := fun n : Ext wy => r9 n.W n.h
       refine zLl (C := fun w' => ∃ n : Ext wy, w' = n.W) [] [0, 1, 2, 3, 4, 5, 6, 7, 9] [8, 10, 11, 12, 13, 14, 15] 16 [] treeVw (by kernel_rfl) (by kernel_rfl) (by intro c a d v w h; cases d <;> exact h) ⟨⟨wc.drew, (zAa HBC).drew⟩, rfl⟩ ?_
       simp only [zAb, List.map_cons, List.map_nil, List.getD_cons_zero, List.getD_cons_succ]
       refine wpQuiet_nil ?_
       repeat (go_big_quiet_step (fail))
       refine wpQuiet_nil ?_
       change wpT _ _ _ _ _ _ _ wc.drew
       unfold treeVw
       obtain ⟨wd, hwd⟩ : ∃ wd, wd = wc.drew := ⟨_, rfl⟩
       have hd0 : Below wy.heap.size wy wd := by rw [hwd]; exact (zAa HBC).drew
       have kpd : Blk wd p 57 #[.int .i64 0, .int .i64 (u : Int), .int .i64 0, .int .i64 0, .int .i64 0, .int .i64 0, .int .i64 0, .int .i64 0, .slice A2 sn c2, .slice none 0 0, .slice A3 rn c3] := by rw [hwd]; exact (zAa HKP).drew
       have ho2d : wd.ownsRow wx.heap.size 111 4 (.slice A2 sn c2) sn (sent.flatMap Envl.cells) := by rw [hwd]; exact (zAa HO2).drew
       have ho3d : wd.ownsRow wx.heap.size 3 1 (.slice A3 rn c3) rn (report.map (.int .i64)) := by rw [hwd]; exact (zAa HO3).drew
       have hodw : OutT wd wx.heap.size (.slice A0 outs.length cA0) outs := by rw [hwd]; exact (zAa HOC).below ((Below.refl _ _).drew)
       have hsd : wx.heap.size ≤ wd.heap.size := by rw [hwd]; exact hwc2
       have hzd : Below wx.heap.size wx wd := by rw [hwd]; exact (zAa HZC).drew
       rw [← hwd]
       clear hwd m0 m1 m2 m3 m4 m5 m6 m7 m8 m9 m10
       refine zAc fun K hK => ?_
       simp only [zAb, List.map_cons, List.map_nil, List.getD_cons_zero, List.getD_cons_succ]
       go_wp2_with fail
       refine (zAa HCB _ hd0).mono ?_
       rintro _ w5 ⟨v5, rfl, ho5, hb5⟩
       obtain ⟨A5, c5, rfl, _⟩ := zAf ho5
       have hk5 : Below wy.heap.size wy w5 := hd0.trans (hb5.mono hd0.size)
       have kp5 := kpd.below hb5 kpd.lt
       have HK5 := hide kp5
       have z0 := kp5.cell 0
       have f0z := kp5.frozen 0
       have z2 := kp5.cell 2
       have f2z := kp5.frozen 2
       have z3 := kp5.cell 3
       have f3z := kp5.frozen 3
       have z4 := kp5.cell 4
       have f4z := kp5.frozen 4
       have z5 := kp5.cell 5
       have f5z := kp5.frozen 5
       have z6 := kp5.cell 6
       have f6z := kp5.frozen 6
       have z7 := kp5.cell 7
       have f7z := kp5.frozen 7
       have z9 := kp5.cell 9
       have f9z := kp5.frozen 9
       have ho2e := hide (zAi ho2d hb5)
       have ho3e := hide (zAi ho3d hb5)
       have HOD := hide (hodw.below hb5)
       have HZ5 := hide (hzd.trans (hb5.mono hsd))
       have HO5 := hide (zBr ho5 hsd)
       have HS5 := hide hb5.size
       clear kpd ho2d ho3d hodw kp5 ho5 hzd
       go_wp2_with fail
       refine hK _ _ (fun _ => ⟨⟨_, hk5⟩, rfl⟩) ?_
       clear hK K hb5
       refine zAc fun K hK => ?_
       simp only [zAb, List.map_cons, List.map_nil, List.getD_cons_zero, List.getD_cons_succ]
       go_wp2_with fail
       refine hK _ _ (fun _ => ⟨⟨_, (zBb hk5 hp _ _)⟩, rfl⟩) ?_
       clear hK K
       refine zAc fun K hK => ?_
       simp only [zAb, List.map_cons, List.map_nil, List.getD_cons_zero, List.getD_cons_succ]
       go_wp2_with fail
       refine hK _ _ (fun _ => ⟨⟨_, (zBb hk5 hp _ _)⟩, rfl⟩) ?_
       clear hK K
       refine zAc fun K hK => ?_
       simp only [zAb, List.map_cons, List.map_nil, List.getD_cons_zero, List.getD_cons_succ]
       go_wp2_with fail
       refine hK _ _ (fun _ => ⟨⟨_, (zBb (zBb (zBb (zBb (zBb (zBb hk5 hp _ _) hp _ _) hp _ _) hp _ _) hp _ _) hp _ _)⟩, rfl⟩) ?_
       clear hK K
       refine zAc fun K hK => ?_
       simp only [zAb, List.map_cons, List.map_nil, List.getD_cons_zero, List.getD_cons_succ]
       go_wp2_with fail
       refine hK _ _ (fun _ => ⟨⟨_, (zBb (zBb (zBb (zBb (zBb (zBb hk5 hp _ _) hp _ _) hp _ _) hp _ _) hp _ _) hp _ _)⟩, rfl⟩) ?_
       clear hK K
       refine zAc fun K hK => ?_
       simp only [zAb, List.map_cons, List.map_nil, List.getD_cons_zero, List.getD_cons_succ]
       go_wp2_with fail
       refine hK _ _ (fun _ => ⟨⟨_, (zBb (zBb (zBb (zBb (zBb (zBb (zBb hk5 hp _ _) hp _ _) hp _ _) hp _ _) hp _ _) hp _ _) hp _ _)⟩, rfl⟩) ?_
       clear hK K
       refine zAc fun K hK => ?_
       simp only [zAb, List.map_cons, List.map_nil, List.getD_cons_zero, List.getD_cons_succ]
       go_wp2_with fail
       refine hK _ _ (fun _ => ⟨⟨_, (zBb (zBb (zBb (zBb (zBb (zBb (zBb hk5 hp _ _) hp _ _) hp _ _) hp _ _) hp _ _) hp _ _) hp _ _)⟩, rfl⟩) ?_
       clear hK K
       refine zAc fun K hK => ?_
       simp only [zAb, List.map_cons, List.map_nil, List.getD_cons_zero, List.getD_cons_succ]
       go_wp2_with fail
       refine hK _ _ (fun h => absurd h (by decide)) ?_
       clear hK K
       refine zBg ?_
       obtain ⟨WF, hWF⟩ : ∃ WF, WF = ((((((((w5.setCell ⟨p, 0, none⟩ (.int .i64 code)).setCell ⟨p, 2, none⟩ (.int .i64 q0)).setCell ⟨p, 3, none⟩ (.int .i64 q1)).setCell ⟨p, 4, none⟩ (.int .i64 q2)).setCell ⟨p, 5, none⟩ (.int .i64 q3)).setCell ⟨p, 6, none⟩ (.int .i64 q4)).setCell ⟨p, 7, none⟩ (.int .i64 value)).setCell ⟨p, 9, none⟩ (.slice A5 fn c5)) := ⟨_, rfl⟩
       have kF : Blk WF p 57 #[.int .i64 code, .int .i64 (u : Int), .int .i64 q0, .int .i64 q1, .int .i64 q2, .int .i64 q3, .int .i64 q4, .int .i64 value, .slice A2 sn c2, .slice A5 fn c5, .slice A3 rn c3] := by
        rw [hWF]
        exact blk_told (zAa HK5) _ _ _ _ _ _ _ _
       have hOF : Only (fun k => k = p) w5 WF := by
        rw [hWF]
        exact zAg (zAg (zAg (zAg (zAg (zAg (zAg (zAg (Only.refl _ _) _ _) _ _) _ _) _ _) _ _) _ _) _ _) _ _
       have hpw : wx.heap.size ≤ p := Nat.le_trans hzr.size (Nat.le_trans (zAa HBY).size hp)
       have hnp : Value.ownBlock (.slice A0 outs.length cA0) ≠ some p := fun e => by
        have h1 := ((zAa HO).1.lt p e).2
        have h2 := (zAa HBY).size
        omega
       have HOCF := hide (yBu (zAa HOD) (zAa HK5) hnp hOF)
       have HOF2 := hide (zAk (zAa ho2e) hOF (fun g hg e => zAe (zAa ho2e) (zAa HK5) (by decide) (by rw [hg, e])))
       have HOF3 := hide (zAk (zAa ho3e) hOF (fun g hg e => zAe (zAa ho3e) (zAa HK5) (by decide) (by rw [hg, e])))
       have HOF5 := hide (zAk (zAa HO5) hOF (fun g hg e => zAe (zAa HO5) (zAa HK5) (by decide) (by rw [hg, e])))
       have HZF := hide ((zAa HZ5).trans (hOF.to_below (fun x hx _ e => by omega) (zAa HZ5).size))
       have hwF : wx.heap.size ≤ WF.heap.size := (zAa HZF).size
       rw [← hWF]
       have m0 := kF.cell 0
       have m1 := kF.cell 1
       have m2 := kF.cell 2
       have m3 := kF.cell 3
       have m4 := kF.cell 4
       have m5 := kF.cell 5
       have m6 := kF.cell 6
       have m7 := kF.cell 7
       have m8 := kF.cell 8
       have m9 := kF.cell 9
       have m10 := kF.cell 10
       clear hWF kF hOF hpw hnp z0 z2 z3 z4 z5 z6 z7 z9 f0z f2z f3z f4z f5z f6z f7z f9z y0 y2 y3 y4 y5 y6 y7 y9 hk5 hd0
       have HMK := hide (show zEc b s ⟨code, (u : Int), ⟨q0, q1, q2, q3, q4⟩, value, sent, frame, report⟩ = ⟨code, (u : Int), ⟨q0, q1, q2, q3, q4⟩, value, sent, frame, report⟩ from if_pos (zAa HMI))
       have HTO := hide (show TolOwn (⟨⟨code, (u : Int), ⟨q0, q1, q2, q3, q4⟩, value, sent, frame, report⟩, A2, sn, c2, A5, fn, c5, A3, rn, c3⟩ : Tol) WF wx.heap.size from ⟨zAa HOF2, zAa HOF5, zAa HOF3⟩)
       have HMC := hide (show (outs ++ [(⟨⟨code, (u : Int), ⟨q0, q1, q2, q3, q4⟩, value, sent, frame, report⟩, A2, sn, c2, A5, fn, c5, A3, rn, c3⟩ : Tol)]).map (·.d) = (l.take (k + 1)).map fun t => zEc b s t.d by
        rw [zBp l k _ (zAa HT), List.map_append, List.map_append, zAa HM]
        congr 1
        exact congrArg (fun x => [x]) (zAa HMK).symm)
       go_wp2_with (first
        | (at_builtin; (refine zAl _ rfl (.tmp 71) (.tmp 73) _ rfl wx.heap.size 57 it _ 11 136 Tryz.underlying26 hit ht0 ht1 ht2 rfl (by omega) (by omega) _ _ _ (zAa HOCF).1 rfl _ 1 _ rfl rfl rfl (by simp [Value.oneCell']) (by rw [zAa HLEN]; omega) hwF ?_); intro g4 cap4 w4 hg4 hown4 hbel4 hgr4 hat4))
       have HO4 := hide ((zAa HOCF).push (zAa HTO) hgr4 hown4)
       have HB4 := hide (hbel4 wx.heap.size wx (Nat.le_refl _) (zAa HZF))
       clear hown4 hbel4 hgr4 hat4 hg4
       go_roundw
       case rel => exact ⟨k + 1, _, by omega, by go_num, HO4, HMC, zAa HB4⟩
       case measure => simp [intOf]; omega
    ·obtain rfl : k = n := by omega
     have HE := hide (show outs.map (·.d) = (zHh cfg (l.map (·.d)) s).1 by
      rw [zAa HF, zAa HM, List.take_of_length_le (by rw [zAa HL]; exact Nat.le_refl _), List.map_map]
      rfl)
     have HOF := hide (show OutT wr w.heap.size (.slice A0 outs.length cA0) outs from ⟨zBr (zAa HO).1 (zAa HW0), fun t ht => ((zAa HO).2 t ht).mono (zAa HW0)⟩)
     clear HO HM
     go_wp2_with fail
     go_ret2
     refine ⟨_, outs, ?_, zAa HOF, zAa HE, zAa HBW⟩
     rw [zAa HF]
     rfl
end
end Go.Proofs.YtbolcebmbpepdaaGreatDoor
