/- The walk of the law on view.Of: it returns true, and writes nothing that was there. Conditions: none beyond what each theorem states. -/
import Derived.Test.YtbkciniikahjhaaViewC
namespace Go.Proofs.Ytbkciniikahjhaa
open Go.RowKit
set_option linter.unusedVariables false

theorem i64_top {n : Int} (h : (Lit.int .i64 n).wf = true) : n ≤ 9223372036854775807 := by
  have hmax : IntKind.i64.max = 9223372036854775807 := rfl
  simp only [Lit.wf, Bool.and_eq_true, decide_eq_true_eq] at h
  omega
theorem walk_ViewOfs (c : Cfg) (A : Option Addr) (n k : Nat) (l : List Tol) (some_ : Int) (w : World) (hc : c.ok w w.heap.size) (hnc : n ≤ k) (hcm : k ≤ maxLen) (hm : n * 136 ≤ 140737488351232) (hl : l.length = n) (hr : Reads w w.heap.size 11 A n (l.flatMap Tol.cells)) (hok : ∀ t ∈ l, t.ok w w.heap.size ∧ t.fits) (hw : (Lit.int .i64 some_).wf = true) :
    Calls Try.prog 8 #[c.val, .slice A n k, .int .i64 some_] w fun e w' => e = .returned (.bool true) ∧ Below w.heap.size w w' := by
  have hsome := i64_top hw
  have H1 := hide (fun W (hW : Below w.heap.size w W) => viewOf_any c A n k l some_ w.heap.size W (hc.below hW) hsome hl hnc hcm hm (hr.below hW) (fun t ht => ⟨(hok t ht).1.below hW, (hok t ht).2⟩) hW.size)
  have H2 := hide (fun W (hW : Below w.heap.size w W) => viewOf_ref c A n k l some_ w.heap.size W (hc.below hW) hsome hl hnc hcm hm (hr.below hW) (fun t ht => ⟨(hok t ht).1.below hW, (hok t ht).2⟩) hW.size)
  unfold ViewPost at H1 H2
  generalize viewP c (l.map (·.d)) some_ = r at H1 H2
  obtain ⟨rs, code⟩ := r
  obtain ⟨br, ⟨lA, ln, lc, ls⟩, tk, ⟨mA, mn, mc, ms⟩, cap⟩ := c
  unfold Cfg.val at H1 H2 ⊢
  dsimp only at H1 H2 ⊢
  obtain ⟨wx, hwx⟩ : ∃ wx, wx = w.alloc (.cells #[.int .i64 br, .slice lA ln lc, .int .i64 tk, .slice mA mn mc, .int .i64 cap] 24) := ⟨_, rfl⟩
  have hbx : Below w.heap.size w wx := by rw [hwx]; exact (Below.refl _ _).alloc (Nat.le_refl _) _
  have hsx : w.heap.size < wx.heap.size := by rw [hwx]; simp
  have hnew := Blk.new w 24 #[.int .i64 br, .slice lA ln lc, .int .i64 tk, .slice mA mn mc, .int .i64 cap]
  rw [← hwx] at hnew
  have c0 : ∀ W, Below wx.heap.size wx W → W.cell? ⟨w.heap.size, 0, none⟩ = some (.int .i64 br) := fun W hW => (Blk.below hnew hW hsx).cell 0
  have c1 : ∀ W, Below wx.heap.size wx W → W.cell? ⟨w.heap.size, 1, none⟩ = some (.slice lA ln lc) := fun W hW => (Blk.below hnew hW hsx).cell 1
  have c2 : ∀ W, Below wx.heap.size wx W → W.cell? ⟨w.heap.size, 2, none⟩ = some (.int .i64 tk) := fun W hW => (Blk.below hnew hW hsx).cell 2
  have c3 : ∀ W, Below wx.heap.size wx W → W.cell? ⟨w.heap.size, 3, none⟩ = some (.slice mA mn mc) := fun W hW => (Blk.below hnew hW hsx).cell 3
  have c4 : ∀ W, Below wx.heap.size wx W → W.cell? ⟨w.heap.size, 4, none⟩ = some (.int .i64 cap) := fun W hW => (Blk.below hnew hW hsx).cell 4
  have hz0 : Below wx.heap.size wx wx := Below.refl _ _
  have HBX := hide hbx
  have HWX := hide hwx
  clear hwx hbx hnew hc hr hl hok hw hsome
  go_enter Try.func8, Try.ntmps8
  go_wp2_with fail
  rw [← unhide HWX]
  refine (unhide H1 wx (unhide HBX)).mono ?_
  rintro _ w1 ⟨v1, o1, rfl, ho1, hd1, hb1⟩
  obtain ⟨A1, c1', rfl, _, hm1, _, _⟩ := ho1.at_
  have hz1 : Below wx.heap.size wx w1 := hb1
  have HB1 := hide ((unhide HBX).trans (hb1.mono (unhide HBX).size))
  have HO1 := hide ho1
  have HD1 := hide hd1
  clear hb1 ho1 hz0 hd1
  go_wp2_with fail
  refine (unhide H2 _ (unhide HB1)).mono ?_
  rintro _ w2 ⟨v2, o2, rfl, ho2, hd2, hb2⟩
  obtain ⟨A2, c2', rfl, _, hm2, hr2, hk2⟩ := ho2.at_
  have hlen : o2.length = o1.length := by have := congrArg List.length hd2; have h' := congrArg List.length (unhide HD1); simp at this h'; omega
  obtain ⟨A1', c1'', e1, hc1, _, hr1, hk1⟩ := ((unhide HO1).below (hb2.mono (Nat.le_refl _))).at_
  injection e1 with e1 _ e2
  subst e1 e2
  have HS := hide (sameTolds_any A1 A2 o1.length c1' c2' o1 o2 _ w2 rfl ((unhide HD1).trans hd2.symm) (by unfold maxLen at hm1; omega) hr1 (by rw [← hlen]; exact hr2) hk1 hk2 (Nat.le_refl _))
  have HB2 := hide ((unhide HB1).trans (hb2.mono (unhide HB1).size))
  have HLE := hide hlen
  clear ho2 hb2 hr1 hr2 hk1 hk2 hd2 hz1 hlen
  go_wp2_with fail
  rw [unhide HLE]
  refine (unhide HS).mono ?_
  rintro _ w3 ⟨rfl, hb3⟩
  have HB3 := hide ((unhide HB2).trans (hb3.mono (unhide HB2).size))
  clear hb3
  go_wp2_with fail
  go_ret
  exact ⟨by simp, unhide HB3⟩
end Go.Proofs.Ytbkciniikahjhaa
