/- The law HoldPlays. Conditions: none beyond what each theorem states. -/
import Derived.Test.YtiljallignlbgaaHoldR
import Derived.Test.YtiljallignlbgaaOpen
namespace Go.Proofs.Ytiljallignlbgaa
open Go.RowKit Go.ChangeShapes Go.WideShapes Go.Deep
set_option linter.unusedVariables false

theorem open_orders {H : Type} {enc : TypeId × Value → H} {w : World} {base : Nat} {spare : Nat → Bool} {held : Bool} {fuel : Nat} {A : Option Addr} {len cap : Nat} {x : DataW H × List MemPlace}
    (h : DataW.trod enc Try.prog w base spare held fuel 22 [.slice A len cap] = some x) :
    len ≤ cap ∧ cap ≤ maxLen ∧ SliceD x.1 len ∧ ∃ l : List Ordr, l.length = len ∧ Reads w w.heap.size 4 A len (l.flatMap Ordr.cells) ∧ ∀ a ∈ l, True := by
  refine rows_reads Ordr.cells (fun _ => True) Try.underlying22 (size := 4) (by kernel_rfl) (by omega) (fun n cs y hy => ?_) h
  obtain ⟨hl, ys, _, _, m, hf⟩ := struct_cells Try.underlying53 (by kernel_rfl) (by kernel_rfl) hy
  obtain ⟨v0, y0, c0, _, t0⟩ := hf 0 _ rfl
  obtain ⟨v1, y1, c1, _, t1⟩ := hf 1 _ rfl
  obtain ⟨v2, y2, c2, _, t2⟩ := hf 2 _ rfl
  obtain ⟨v3, y3, c3, _, t3⟩ := hf 3 _ rfl
  obtain ⟨z0, e0, _, w0⟩ := DataW.trod_int Try.underlying3 t0
  obtain ⟨z1, e1, _, w1⟩ := DataW.trod_int Try.underlying3 t1
  obtain ⟨z2, e2, _, w2⟩ := DataW.trod_int Try.underlying3 t2
  obtain ⟨z3, e3, _, w3⟩ := DataW.trod_int Try.underlying3 t3
  simp at e0 e1 e2 e3
  subst e0 e1 e2 e3
  refine ⟨hl, ⟨z0, z1, z2, z3⟩, ?_, trivial⟩
  match cs, hl with
  | [a, b, c, d], _ =>
    simp at c0 c1 c2 c3
    subst c0 c1 c2 c3
    rfl

set_option maxHeartbeats 1000000 in
theorem walk_HoldPlays (A : Option Addr) (n c : Nat) (l : List Ordr) (w : World) (hnc : n ≤ c) (hcm : c ≤ maxLen) (_hm : n * 32 ≤ 140737488351232) (hl : l.length = n) (hr : Reads w w.heap.size 4 A n (l.flatMap Ordr.cells)) :
    Calls Try.prog 3 #[.slice A n c] w fun e w' => e = .returned (.bool true) ∧ Below w.heap.size w w' := by
  have H1 := hide (holdPlay_any A n c l _ w hl hnc hcm hr (Nat.le_refl _))
  have H2 := hide (fun W (hW : Below w.heap.size w W) => holdPlay_ref A n c l _ W hl hnc hcm (hr.below hW) hW.size)
  have hll : (holdP l).1.length ≤ 300 := by
    have key : ∀ (s : Shf) (l : List Ordr), (playS s l).length = l.length := by
      intro s l
      induction l generalizing s with
      | nil => rfl
      | cons o l ih => simp [playS, ih]
    unfold holdP
    split
    · simp
    · rename_i h; dsimp only; rw [key]; omega
  rw [← holdP_same l] at H2
  generalize holdP l = pr at *
  obtain ⟨r, rc⟩ := pr
  clear hl hr hnc hcm
  go_enter Try.func3, Try.ntmps3
  go_wp2_with fail
  refine (unhide H1).mono ?_
  rintro _ w1 ⟨v1, rfl, ho1, hb1⟩
  obtain ⟨A1, c1, rfl, hc1⟩ := own_slice ho1
  have HR1 := hide ho1
  have HB1 := hide hb1
  have hs1 := hb1.size
  clear ho1 hb1
  go_wp2_with fail
  refine (unhide H2 _ (unhide HB1)).mono ?_
  rintro _ w2 ⟨v2, rfl, ho2, hb2⟩
  obtain ⟨A2, c2, rfl, hc2⟩ := own_slice ho2
  have ho1' := own_below' (unhide HR1) hb2
  have HB2 := hide ((unhide HB1).trans (hb2.mono hs1))
  have HQ1 := hide (Reads.of_own ho1')
  have HQ2 := hide (Reads.of_own ho2)
  obtain ⟨m, hm⟩ : ∃ m, m = r.length := ⟨_, rfl⟩
  rw [← hm] at HQ1 HQ2 hll
  have HM := hide hm.symm
  clear ho2 hb2 ho1' HR1 hc1 hc2
  dsimp only
  rw [← hm]
  clear hm
  go_wp2_with fail
  go_loopw [7] (fun i wr => ∃ k : Nat, k ≤ m ∧ i = .int .i64 k ∧ Below w2.heap.size w2 wr) (fun i _ => m - (intOf i).toNat)
  case atStart => exact ⟨0, Nat.zero_le _, rfl, Below.refl _ _⟩
  case round =>
    obtain ⟨k, hk, rfl, hb⟩ := hrel
    by_cases hlt : k < m
    · obtain ⟨b1, p1, x, rfl, _, hx, hcx⟩ := at_row Stk.cells_len (by omega) ((unhide HQ1).below hb) hlt (unhide HM)
      obtain ⟨b2, p2, y, rfl, _, hy, hcy⟩ := at_row Stk.cells_len (by omega) ((unhide HQ2).below hb) hlt (unhide HM)
      obtain rfl : x = y := by rw [hx] at hy; injection hy
      have e0 := hcx 0 _ rfl
      have e1 := hcx 1 _ rfl
      have e2 := hcx 2 _ rfl
      have e3 := hcx 3 _ rfl
      have e4 := hcx 4 _ rfl
      have d0 := hcy 0 _ rfl
      have d1 := hcy 1 _ rfl
      have d2 := hcy 2 _ rfl
      have d3 := hcy 3 _ rfl
      have d4 := hcy 4 _ rfl
      simp only [Nat.add_zero] at e0 d0
      have hkm : (k : Int) < (m : Int) := by omega
      clear hx hy hcx hcy
      go_wp2_with fail
      go_quiet (fail)
      go_wp2_with fail
      go_roundw
      case rel => exact ⟨k + 1, by omega, by go_num, below_drewN hb nq⟩
      case measure => simp [intOf]; omega
    · obtain rfl : k = m := by omega
      go_wp2_with fail
      go_ret
      exact ⟨rfl, (unhide HB2).trans (hb.mono (unhide HB2).size)⟩
end Go.Proofs.Ytiljallignlbgaa
