/- The law FrameRumours. Conditions: none beyond what each theorem states. -/
import Derived.Test.YtbkciniikahjhaaRumI
import Derived.Test.YtbkciniikahjhaaBytesSame
import Derived.Test.YtbkciniikahjhaaOpen
namespace Go.Proofs.Ytbkciniikahjhaa
open Go.RowKit Go.ChangeShapes Go.WideShapes Go.Deep
set_option linter.unusedVariables false

theorem refRumour_any (c : Cfg) (a b : Int) (t : TabR) (B : Nat) (w : World) (hc : c.ok w B) (ht : TabOk w B t) (hB : B ≤ w.heap.size) :
    Calls Try.prog 18 #[c.val, .int .i64 a, .int .i64 b, t.val] w (RumPost (rumourP c a b t.es) w) := by
  by_cases h : configP c = true ∧ (brOk c a = true ∧ brOk c b = true) ∧ t.es.length = c.la.zs.length
  · obtain ⟨h1, h2, h3⟩ := h
    have ha : 0 ≤ a := by have := h2.1; unfold brOk at this; simp at this; omega
    have hb : 0 ≤ b := by have := h2.2; unfold brOk at this; simp at this; omega
    obtain ⟨a, rfl⟩ := Int.eq_ofNat_of_zero_le ha
    obtain ⟨b, rfl⟩ := Int.eq_ofNat_of_zero_le hb
    exact refRumour_good c a b t B w hc ht hB h1 h2 h3
  · exact refRumour_early c a b t B w hc ht hB h
theorem open_etable {H : Type} {enc : TypeId × Value → H} {w : World} {base : Nat} {spare : Nat → Bool} {held : Bool} {fuel : Nat} {A : Option Addr} {len cap : Nat} {x : DataW H × List MemPlace}
    (h : DataW.trod enc Try.prog w base spare held fuel 36 [.slice A len cap] = some x) :
    len ≤ cap ∧ cap ≤ maxLen ∧ SliceD x.1 len ∧ ∃ l : List EnR, l.length = len ∧ Reads w w.heap.size 1 A len (l.map EnR.val) ∧ ∀ r ∈ l, r.es.length ≤ maxLen ∧ Reads w w.heap.size 5 r.A r.es.length (r.es.flatMap entCells) := by
  obtain ⟨h1, h2, h3, l, h4, h5, h6⟩ := rows_reads (fun r : EnR => [r.val]) (fun r => r.es.length ≤ maxLen ∧ Reads w w.heap.size 5 r.A r.es.length (r.es.flatMap entCells)) Try.underlying36 (size := 1) (by kernel_rfl) (by omega) (fun n cs y hy => by
    rcases open_slice Try.underlying60 hy with ⟨rfl, _⟩ | ⟨a, len, cap, m, n, D, Pl, rfl, _⟩
    · exact ⟨rfl, ⟨[], none, 0⟩, rfl, Nat.zero_le _, Reads.none_⟩
    · obtain ⟨k1, k2, _, zs, k3, k4, _⟩ := open_entries hy
      refine ⟨rfl, ⟨zs, some a, cap⟩, ?_, ?_, ?_⟩
      · unfold EnR.val; dsimp only; rw [k3]
      · dsimp only; rw [k3]; exact Nat.le_trans k1 k2
      · dsimp only; rw [k3]; exact k4) h
  refine ⟨h1, h2, h3, l, h4, ?_, h6⟩
  rw [List.map_eq_flatMap]
  exact h5
set_option maxRecDepth 100000 in
set_option maxHeartbeats 2000000 in
theorem walk_FrameRumours (c : Cfg) (a b : Int) (A : Option Addr) (n cc : Nat) (rs : List EnR) (w : World) (hc : c.ok w w.heap.size) (_wa : (Lit.int .i64 a).wf = true) (_wb : (Lit.int .i64 b).wf = true) (hnc : n ≤ cc) (hcm : cc ≤ maxLen) (hl : rs.length = n) (hr : Reads w w.heap.size 1 A n (rs.map EnR.val)) (hg : ∀ r ∈ rs, r.es.length ≤ maxLen ∧ Reads w w.heap.size 5 r.A r.es.length (r.es.flatMap entCells)) :
    Calls Try.prog 6 #[c.val, .int .i64 a, .int .i64 b, .slice A n cc] w fun e w' => e = .returned (.bool true) ∧ Below w.heap.size w w' := by
  obtain ⟨t, htv⟩ : ∃ t : TabR, t = ⟨rs, A, cc⟩ := ⟨_, rfl⟩
  have ht : TabOk w w.heap.size t := by
    rw [htv]
    exact ⟨⟨by dsimp only; rw [hl]; exact hr, fun r h => (hg r h).2⟩, by dsimp only; rw [hl]; exact Nat.le_trans hnc hcm, fun r h => (hg r h).1⟩
  have hval : t.val = .slice A n cc := by rw [htv]; unfold TabR.val; dsimp only; rw [hl]
  have H1 := hide (fun W (hW : Below w.heap.size w W) => rumour_any c a b t w.heap.size W (hc.below hW) (ht.below hW) hW.size)
  have H2 := hide (fun W (hW : Below w.heap.size w W) => refRumour_any c a b t w.heap.size W (hc.below hW) (ht.below hW) hW.size)
  have hlen : (rumourP c a b t.es).1.length ≤ 1000000 := by
    unfold rumourP
    split
    · simp
    split
    · simp
    split
    · simp
    split
    · simp
    split
    · simp
    · rename_i h1 _ _ _ _
      have h4 := (config_br (by simpa using h1)).2.2.1
      have := bothGo_len a.toNat b.toNat c.la.zs 0
      simp [bytesOf]
      omega
  rw [hval] at H1 H2
  unfold RumPost at H1 H2
  generalize rumourP c a b t.es = R at *
  obtain ⟨rb, rc⟩ := R
  dsimp only at H1 H2 hlen
  obtain ⟨w1, hw1⟩ : ∃ w1, w1 = w.alloc (.cells c.cells.toArray 24) := ⟨_, rfl⟩
  have hb1 : Below w.heap.size w w1 := by rw [hw1]; exact (Below.refl _ _).alloc (Nat.le_refl _) _
  obtain ⟨p, hp⟩ : ∃ p, p = w.heap.size := ⟨_, rfl⟩
  have kb : Blk w1 p 24 c.cells.toArray := by rw [hw1, hp]; exact Blk.new w _ _
  have HB1 := hide hb1
  have HW1 := hide hw1
  have HP := hide hp
  have HLEN := hide hlen
  have k0 := fun (W : World) (hz : Below w1.heap.size w1 W) => (kb.below hz kb.lt).cell 0
  have k1 := fun (W : World) (hz : Below w1.heap.size w1 W) => (kb.below hz kb.lt).cell 1
  have k2 := fun (W : World) (hz : Below w1.heap.size w1 W) => (kb.below hz kb.lt).cell 2
  have k3 := fun (W : World) (hz : Below w1.heap.size w1 W) => (kb.below hz kb.lt).cell 3
  have k4 := fun (W : World) (hz : Below w1.heap.size w1 W) => (kb.below hz kb.lt).cell 4
  have hz1 : Below w1.heap.size w1 w1 := Below.refl _ _
  clear hb1 kb hp hw1 hc ht htv hval hl hr hg hlen hnc hcm
  obtain ⟨br, ⟨lA, ln, lc, ls⟩, tk, ⟨mA, mn, mc, ms⟩, cap⟩ := c
  unfold Cfg.cells at HW1 k0 k1 k2 k3 k4
  unfold Cfg.val at H1 H2 ⊢
  dsimp only at H1 H2 HW1 k0 k1 k2 k3 k4 ⊢
  simp only [List.getElem?_toArray, List.getElem?_cons_zero, List.getElem?_cons_succ] at k0 k1 k2 k3 k4
  go_enter Try.func6, Try.ntmps6
  go_upto_region 1 with fail
  rw [← unhide HP, ← unhide HW1]
  go_wp2_with fail
  refine (unhide H1 w1 (unhide HB1)).mono ?_
  rintro _ w2 ⟨v2, rfl, ho2, hb2⟩
  have hz2 : Below w1.heap.size w1 w2 := hb2
  have HO2 := hide ho2
  have HB2 := hide ((unhide HB1).trans (hb2.mono (unhide HB1).size))
  clear ho2 hb2
  go_wp2_with fail
  refine (unhide H2 w2 (unhide HB2)).mono ?_
  rintro _ w3 ⟨v3, rfl, ho3, hb3⟩
  have HB3 := hide ((unhide HB2).trans (hb3.mono (unhide HB2).size))
  obtain ⟨A2, c2, rfl, _⟩ := own_slice (unhide HO2)
  obtain ⟨A3, c3, rfl, _⟩ := own_slice ho3
  have HSB := hide (sameBytes_row A2 A3 rb.length c2 c3 rb w3.heap.size w3 rfl (by have := unhide HLEN; omega) (Reads.of_own (own_below' (unhide HO2) hb3)) (Reads.of_own ho3))
  clear ho3 hb3
  go_wp2_with fail
  refine (unhide HSB).mono ?_
  rintro _ w4 ⟨rfl, nq, rfl⟩
  have HB4 := hide (below_drewN (unhide HB3) nq)
  go_wp2_with fail
  go_ret
  exact ⟨rfl, unhide HB4⟩
end Go.Proofs.Ytbkciniikahjhaa
