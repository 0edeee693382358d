/- The law ClockPlays: program and reference come to the same tables; an argument that is a slice of events. Conditions: none beyond what each theorem states. -/
import Derived.Test.YtickpflebmecpaaClockF
import Derived.Test.YtickpflebmecpaaClockI
import Derived.Test.YtickpflebmecpaaTabSame
namespace Go.Proofs.Ytickpflebmecpaa
open Go.RowKit Go.ChangeShapes Go.WideShapes Go.Deep
set_option linter.unusedVariables false

theorem open_events {H : Type} {enc : TypeId × Value → H} {w : World} {base : Nat} {spare : Nat → Bool} {held : Bool} {fuel : Nat} {A : Option Addr} {len cap : Nat} {x : DataW H × List MemPlace}
    (h : DataW.trod enc Try.prog w base spare held fuel 30 [.slice A len cap] = some x) :
    len ≤ cap ∧ cap ≤ maxLen ∧ SliceD x.1 len ∧ ∃ l : List Ev, l.length = len ∧ Reads w w.heap.size 3 A len (l.flatMap Ev.cells) ∧ ∀ a ∈ l, True := by
  refine rows_reads Ev.cells _ Try.underlying30 (size := 3) (by kernel_rfl) (by omega) (fun n cs y hy => ?_) h
  obtain ⟨hl, ys, _, _, m, hf⟩ := struct_cells Try.underlying41 (by kernel_rfl) (by kernel_rfl) hy
  obtain ⟨v0, y0, c0, _, t0⟩ := hf 0 _ rfl
  obtain ⟨v1, y1, c1, _, t1⟩ := hf 1 _ rfl
  obtain ⟨v2, y2, c2, _, t2⟩ := hf 2 _ rfl
  obtain ⟨z0, e0, _, w0⟩ := DataW.trod_int Try.underlying3 t0
  obtain ⟨z1, e1, _, w1⟩ := DataW.trod_int Try.underlying3 t1
  obtain ⟨z2, e2, _, w2⟩ := DataW.trod_int Try.underlying3 t2
  simp at e0 e1 e2
  subst e0 e1 e2
  refine ⟨hl, ⟨z0, z1, z2⟩, ?_, trivial⟩
  match cs, hl with
  | [a, b, c], _ =>
    simp at c0 c1 c2
    subst c0 c1 c2
    rfl

theorem walk_ClockPlays (sites : Int) (A : Option Addr) (n c : Nat) (es : List Ev) (w : World) (_hw : (Lit.int .i64 sites).wf = true) (hnc : n ≤ c) (hcm : c ≤ maxLen) (_hm : n * 24 ≤ 140737488351232) (hl : es.length = n) (hr : Reads w w.heap.size 3 A n (es.flatMap Ev.cells)) :
    Calls Try.prog 6 #[.int .i64 sites, .slice A n c] w fun e w' => e = .returned (.bool true) ∧ Below w.heap.size w w' := by
  have H1 := hide (clockPlay_any sites A n c es _ w hl hnc hcm hr (Nat.le_refl _))
  have H2 := hide (fun W (hW : Below w.heap.size w W) => clockPlay_ref sites A n c es _ W hl hnc hcm (hr.below hW) hW.size)
  clear hl hr hnc hcm
  go_enter Try.func6, Try.ntmps6
  go_wp2_with fail
  refine (unhide H1).mono ?_
  rintro e w1 ⟨A1, n1, c1, rs1, rfl, hn1, hc1, ht1, hz1, hb1⟩
  have HB1 := hide hb1
  have HT1 := hide ht1
  clear hb1 ht1
  go_wp2_with fail
  refine (unhide H2 _ (unhide HB1)).mono ?_
  rintro e w2 ⟨A2, n2, c2, rs2, rfl, hn2, hc2, ht2, hz2, hb2⟩
  have hlen : n1 = n2 := by
    have h1 := (unhide HT1).1
    have h2 := ht2.1
    have h3 := congrArg List.length hz1
    have h4 := congrArg List.length hz2
    simp only [List.length_map] at h3 h4
    omega
  subst hlen
  have HS := hide (sameTable_any A1 A2 n1 c1 c2 rs1 rs2 _ w2 (by unfold maxLen at hc1; omega) (((unhide HT1).below hb2).more hb2.size) ht2 (by rw [hz1, hz2]))
  have HB2 := hide ((unhide HB1).trans (hb2.mono (unhide HB1).size))
  clear ht2 hb2 hz1 hz2 HT1
  go_wp2_with fail
  refine (unhide HS).mono ?_
  rintro e w3 ⟨rfl, nq, rfl⟩
  go_wp2_with fail
  go_ret
  exact ⟨by simp, below_drewN (unhide HB2) _⟩
end Go.Proofs.Ytickpflebmecpaa
