/- The walk of the law on tally.Do. Conditions: none beyond what each theorem states. -/
import Derived.Test.YtjhgnblakmhncaaTallyN
import Derived.Test.YtjhgnblakmhncaaTallyJ
namespace Go.Proofs.Ytjhgnblakmhncaa
open Go.RowKit Go.ChangeShapes Go.WideShapes Go.Deep
set_option linter.unusedVariables false

def Dd.val (d : Dd) : Value := .agg #[.int .i64 d.kind, .int .i64 d.who, .int .i64 d.dst, .int .i64 d.count]
theorem open_deed {H : Type} {enc : TypeId × Value → H} {w : World} {r : Reach} {b0 base : Nat} {spare : Nat → Bool} {held : Bool} {v : Value} {d : DataW H} {ps : List MemPlace}
    (hval : Value.okWide Try.prog w r b0 35 v) (h : DataW.Trod enc Try.prog w base spare held 35 v d ps) : ∃ e : Dd, v = e.val := by
  obtain ⟨cs, rfl, hsz⟩ := okWide_struct Try.underlying35 hval
  obtain ⟨n, h⟩ := h
  obtain ⟨hl, ys, _, _, m, hf⟩ := struct_cells Try.underlying35 (by kernel_rfl) (by kernel_rfl) h
  obtain ⟨v0, y0, c0, _, t0⟩ := hf 0 _ rfl
  obtain ⟨v1, y1, c1, _, t1⟩ := hf 1 _ rfl
  obtain ⟨v2, y2, c2, _, t2⟩ := hf 2 _ rfl
  obtain ⟨v3, y3, c3, _, t3⟩ := hf 3 _ rfl
  obtain ⟨z0, e0, _, w0⟩ := DataW.trod_int Try.underlying3 t0
  obtain ⟨z1, e1, _, w1⟩ := DataW.trod_int Try.underlying3 t1
  obtain ⟨z2, e2, _, w2⟩ := DataW.trod_int Try.underlying3 t2
  obtain ⟨z3, e3, _, w3⟩ := DataW.trod_int Try.underlying3 t3
  simp at e0 e1 e2 e3
  subst e0 e1 e2 e3
  refine ⟨⟨z0, z1, z2, z3⟩, ?_⟩
  obtain ⟨l⟩ := cs
  have hl' : l.length = 4 := hl
  match l, hl' with
  | [a, b, c, d], _ =>
    simp [Value.cells] at c0 c1 c2 c3
    subst c0 c1 c2 c3
    rfl

set_option maxHeartbeats 800000 in
theorem walk_TallyDoes (a : Tly) (d : Dd) (w : World) (ha : a.ok w w.heap.size) :
    Calls Try.prog 6 #[a.val, d.val] w fun e w' => e = .returned (.bool true) ∧ Below w.heap.size w w' := by
  obtain ⟨kind, who, dst, count⟩ := d
  have H1 := hide (fun W (hW : Below w.heap.size w W) => tallyDo_any a kind who dst count w.heap.size W (ha.below hW) hW.size)
  have H2 := hide (fun W (hW : Below w.heap.size w W) => tallyDoR_any a kind who dst count w.heap.size W (ha.below hW) hW.size)
  clear ha
  generalize doP a.mv a.u.zs ⟨kind, who, dst, count⟩ = r at H1 H2
  obtain ⟨A, m, c, rs, ⟨uA, n, uc, us⟩⟩ := a
  unfold Tly.val at H1 H2 ⊢
  unfold Dd.val
  dsimp only at H1 H2 ⊢
  obtain ⟨wx, hwx⟩ : ∃ wx, wx = (w.alloc (.cells #[.slice A m c, .slice uA n uc] 25)).alloc (.cells #[.int .i64 kind, .int .i64 who, .int .i64 dst, .int .i64 count] 35) := ⟨_, rfl⟩
  have hbx : Below w.heap.size w wx := by rw [hwx]; exact ((Below.refl _ _).alloc (Nat.le_refl _) _).alloc (by simp) _
  have hsx : wx.heap.size = w.heap.size + 2 := by rw [hwx]; simp
  have k0 : Blk wx w.heap.size 25 #[.slice A m c, .slice uA n uc] := by rw [hwx]; exact (Blk.new w 25 _).alloc _
  have k1 : Blk wx (w.heap.size + 1) 35 #[.int .i64 kind, .int .i64 who, .int .i64 dst, .int .i64 count] := by
    rw [hwx]
    have h := Blk.new (w.alloc (.cells #[.slice A m c, .slice uA n uc] 25)) 35 #[.int .i64 kind, .int .i64 who, .int .i64 dst, .int .i64 count]
    simpa using h
  have q0 : ∀ W, Below wx.heap.size wx W → W.cell? ⟨w.heap.size, 0, none⟩ = some (.slice A m c) := fun W hW => (Blk.below k0 hW (by omega)).cell 0
  have q1 : ∀ W, Below wx.heap.size wx W → W.cell? ⟨w.heap.size, 1, none⟩ = some (.slice uA n uc) := fun W hW => (Blk.below k0 hW (by omega)).cell 1
  have d0 : ∀ W, Below wx.heap.size wx W → W.cell? ⟨w.heap.size + 1, 0, none⟩ = some (.int .i64 kind) := fun W hW => (Blk.below k1 hW (by omega)).cell 0
  have d1 : ∀ W, Below wx.heap.size wx W → W.cell? ⟨w.heap.size + 1, 1, none⟩ = some (.int .i64 who) := fun W hW => (Blk.below k1 hW (by omega)).cell 1
  have d2 : ∀ W, Below wx.heap.size wx W → W.cell? ⟨w.heap.size + 1, 2, none⟩ = some (.int .i64 dst) := fun W hW => (Blk.below k1 hW (by omega)).cell 2
  have d3 : ∀ W, Below wx.heap.size wx W → W.cell? ⟨w.heap.size + 1, 3, none⟩ = some (.int .i64 count) := fun W hW => (Blk.below k1 hW (by omega)).cell 3
  have HSX := hide (show w.heap.size + 2 ≤ wx.heap.size by omega)
  have HBX := hide hbx
  have HWX := hide hwx
  have hz0 : Below wx.heap.size wx wx := Below.refl _ _
  clear hbx hwx k0 k1 hsx
  go_enter Try.func6, Try.ntmps6
  go_wp2_with fail
  rw [← unhide HWX]
  refine (unhide H1 wx (unhide HBX)).mono ?_
  rintro _ w1 ⟨t1, rfl, hok1, hm1, hu1, hb1'⟩
  have hz1 : Below wx.heap.size wx w1 := hb1'
  obtain ⟨A1, m1, c1', rs1, ⟨uA1, n1, uc1, us1⟩⟩ := t1
  unfold Tly.val
  dsimp only at hu1 ⊢
  have hlt0 : w.heap.size < w1.heap.size := by have := unhide HSX; have := hz1.size; omega
  have hlt1 : w.heap.size + 1 < w1.heap.size := by have := unhide HSX; have := hz1.size; omega
  have HO1 := hide hok1
  have HM1 := hide hm1
  have HU1 := hide hu1
  have HB1 := hide ((unhide HBX).trans (hz1.mono (unhide HBX).size))
  clear hok1 hm1 hu1 hb1'
  go_wp2_with fail
  have HX := hide (Blk.new w1 25 #[.slice A1 m1 c1', .slice uA1 n1 uc1])
  have hz2 := hz1.alloc hz1.size (.cells #[.slice A1 m1 c1', .slice uA1 n1 uc1] 25)
  have HB2 := hide ((unhide HB1).alloc (unhide HB1).size (.cells #[.slice A1 m1 c1', .slice uA1 n1 uc1] 25))
  have HO2 := hide ((unhide HO1).below ((Below.refl _ _).alloc (Nat.le_refl _) (.cells #[.slice A1 m1 c1', .slice uA1 n1 uc1] 25)))
  have HS2 := hide (show w1.heap.size < (w1.alloc (.cells #[.slice A1 m1 c1', .slice uA1 n1 uc1] 25)).heap.size by simp)
  generalize w1.alloc (.cells #[.slice A1 m1 c1', .slice uA1 n1 uc1] 25) = w2 at HX HB2 HO2 HS2 hz2 ⊢
  refine (unhide H2 w2 (unhide HB2)).mono ?_
  rintro _ w3 ⟨t2, rfl, hok2, hm2, hu2, hb3'⟩
  have hb3 : Below w2.heap.size w2 w3 := hb3'
  have hz3 : Below wx.heap.size wx w3 := hz2.trans (hb3.mono hz2.size)
  obtain ⟨A2, m2, c2', rs2, ⟨uA2, n2, uc2, us2⟩⟩ := t2
  unfold Tly.val
  dsimp only at hu2 ⊢
  have hs3 := hb3.size
  have hx := Blk.below (unhide HX) hb3 (unhide HS2)
  have x0 := hx.cell 0
  have x1 := hx.cell 1
  have hltx : w1.heap.size < w3.heap.size := by have := unhide HS2; omega
  have HB3 := hide ((unhide HB2).trans (hb3.mono (unhide HB2).size))
  have HO3 := hide (((unhide HO2).more (Nat.le_of_lt (unhide HS2))).below hb3)
  have HO4 := hide hok2
  have HMM := hide ((unhide HM1).trans hm2.symm)
  have HUU := hide ((unhide HU1).trans hu2.symm)
  clear hok2 hm2 hu2 hb3 hb3' hx
  go_wp2_with fail
  have HB4 := hide ((unhide HB3).alloc (unhide HB3).size (.cells #[.slice A2 m2 c2', .slice uA2 n2 uc2] 25))
  have hbn : Below w3.heap.size w3 (w3.alloc (.cells #[.slice A2 m2 c2', .slice uA2 n2 uc2] 25)) := (Below.refl _ _).alloc (Nat.le_refl _) _
  have HSM := hide (sameTally_any ⟨A1, m1, c1', rs1, ⟨uA1, n1, uc1, us1⟩⟩ ⟨A2, m2, c2', rs2, ⟨uA2, n2, uc2, us2⟩⟩ (w3.alloc (.cells #[.slice A2 m2 c2', .slice uA2 n2 uc2] 25)) ((((unhide HO3).more hs3).below hbn).more hbn.size) (((unhide HO4).below hbn).more hbn.size) (unhide HMM) (unhide HUU))
  clear hbn
  unfold Tly.val at HSM
  dsimp only at HSM
  refine (unhide HSM).mono ?_
  rintro _ w5 ⟨rfl, hb5⟩
  have HB5 := hide ((unhide HB4).trans (hb5.mono (unhide HB4).size))
  clear hb5
  go_wp2_with fail
  go_ret
  exact ⟨by simp, unhide HB5⟩
end Go.Proofs.Ytjhgnblakmhncaa
