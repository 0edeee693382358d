/- The law GossipPlays. Conditions: none beyond what each theorem states. -/
import Derived.Test.YthmnfbnaeggknaaGosK
import Derived.Test.YthmnfbnaeggknaaOpen
namespace Go.Proofs.Ythmnfbnaeggknaa
open Go.RowKit Go.ChangeShapes Go.WideShapes Go.Deep
set_option linter.unusedVariables false

theorem open_turns {H : Type} {enc : TypeId × Value → H} {w : World} {base : Nat} {spare : Nat → Bool} {held : Bool} {fuel : Nat} {A : Option Addr} {len cap : Nat} {x : DataW H × List MemPlace}
    (h : DataW.trod enc Try.prog w base spare held fuel 33 [.slice A len cap] = some x) :
    len ≤ cap ∧ cap ≤ maxLen ∧ SliceD x.1 len ∧ ∃ l : List TurnI, l.length = len ∧ Reads w w.heap.size 6 A len (l.flatMap turnCells) ∧ ∀ a ∈ l, True := by
  refine rows_reads turnCells (fun _ => True) Try.underlying33 (size := 6) (by kernel_rfl) (by omega) (fun n cs y hy => ?_) h
  obtain ⟨hl, ys, _, _, m, hf⟩ := struct_cells Try.underlying60 (by kernel_rfl) (by kernel_rfl) hy
  obtain ⟨v0, y0, c0, _, t0⟩ := hf 0 _ rfl
  obtain ⟨v1, y1, c1, _, t1⟩ := hf 1 _ rfl
  obtain ⟨v2, y2, c2, _, t2⟩ := hf 2 _ rfl
  obtain ⟨v3, y3, c3, _, t3⟩ := hf 3 _ rfl
  obtain ⟨v4, y4, c4, _, t4⟩ := hf 4 _ rfl
  obtain ⟨v5, y5, c5, _, t5⟩ := hf 5 _ rfl
  obtain ⟨z0, e0, _, w0⟩ := DataW.trod_int Try.underlying3 t0
  obtain ⟨z1, e1, _, w1⟩ := DataW.trod_int Try.underlying3 t1
  obtain ⟨z2, e2, _, w2⟩ := DataW.trod_int Try.underlying3 t2
  obtain ⟨z3, e3, _, w3⟩ := DataW.trod_int Try.underlying3 t3
  obtain ⟨z4, e4, _, w4⟩ := DataW.trod_int Try.underlying3 t4
  obtain ⟨z5, e5, _, w5⟩ := DataW.trod_int Try.underlying3 t5
  simp at e0 e1 e2 e3 e4 e5
  subst e0 e1 e2 e3 e4 e5
  refine ⟨hl, ⟨z0, z1, z2, z3, z4, z5⟩, ?_, trivial⟩
  match cs, hl with
  | [a, b, c, d, e, f], _ =>
    simp at c0 c1 c2 c3 c4 c5
    subst c0 c1 c2 c3 c4 c5
    rfl
theorem playQ_small (b : Int) (zs : List Int) (ts : List TurnI) : (playQ b zs ts).2.1.length ≤ 300 ∧ (plQ zs.length (playQ b zs ts).2.2).length ≤ 1000 ∧ ∀ p ∈ plQ zs.length (playQ b zs ts).2.2, p.length ≤ 1000 ∧ ∀ r ∈ p, r.length ≤ 1000 := by
  unfold playQ
  split
  · exact ⟨by simp, by simp [plQ], by simp [plQ]⟩
  split
  · exact ⟨by simp, by simp [plQ], by simp [plQ]⟩
  rename_i h1 h2
  have hg := runQ_good (m := b.toNat) (n := zs.length) (by omega) (zs.map Int.toNat) (by simp) ts 0 (newQ b.toNat zs.length) (newQ_good _ _) (Int.le_refl _) (by omega)
  refine ⟨by dsimp only; rw [runQ_len]; omega, by dsimp only; unfold plQ; rw [List.length_map, hg.len]; omega, fun p hp => ?_⟩
  unfold plQ at hp
  obtain ⟨q, hq, rfl⟩ := List.mem_map.1 hp
  refine ⟨by simp [rowsQ]; omega, fun r hr => ?_⟩
  unfold rowsQ at hr
  obtain ⟨l, hl, rfl⟩ := List.mem_map.1 hr
  have := lsS_len (rowQ q l)
  have : (rowQ q l).length ≤ 8 := by unfold rowQ; exact List.length_take_le _ _
  omega
set_option maxRecDepth 100000 in
set_option maxHeartbeats 2000000 in
theorem walk_GossipPlays (b : Int) (A : Option Addr) (n c : Nat) (zs : List Int) (A' : Option Addr) (n' c' : Nat) (ts : List TurnI) (w : World) (_w0 : (Lit.int .i64 b).wf = true) (hnc : n ≤ c) (hcm : c ≤ maxLen) (hl : zs.length = n) (hr : Reads w w.heap.size 1 A n (zs.map (.int .i64))) (hz : ∀ z ∈ zs, (Lit.int .i64 z).wf = true) (hnc' : n' ≤ c') (hcm' : c' ≤ maxLen) (_hm : n' * 48 ≤ 140737488351232) (hl' : ts.length = n') (hr' : Reads w w.heap.size 6 A' n' (ts.flatMap turnCells)) :
    Calls Try.prog 7 #[.int .i64 b, .slice A n c, .slice A' n' c'] w fun e w' => e = .returned (.bool true) ∧ Below w.heap.size w w' := by
  have H1 := hide (gosPlay_any b A n c zs A' n' c' ts _ w hl (Nat.le_trans hnc hcm) hr hz hl' hr' (Nat.le_refl _))
  have H2 := hide (fun W (hW : Below w.heap.size w W) => refPlayed_any b A n c zs A' n' c' ts _ W hl (Nat.le_trans hnc hcm) (hr.below hW) (Nat.le_trans hnc' hcm') hl' (hr'.below hW) hW.size)
  obtain ⟨s1, s2, s3⟩ := playQ_small b zs ts
  unfold PlayPost at H1 H2
  generalize plQ zs.length (playQ b zs ts).2.2 = P at *
  generalize (playQ b zs ts).2.1 = C at *
  generalize (playQ b zs ts).1 = x at *
  have HS1 := hide s1
  have HS2 := hide s2
  have HS3 := hide s3
  clear hl hr hz hl' hr' hnc hcm hnc' hcm' s1 s2 s3
  go_enter Try.func7, Try.ntmps7
  go_wp2_with fail
  refine (unhide H1).mono ?_
  rintro _ w1 ⟨v1, p1, rfl, ho1, hs1, hb1⟩
  have HO1 := hide ho1
  have HP1 := hide hs1
  have HB1 := hide hb1
  clear ho1 hs1 hb1
  go_wp2_with fail
  refine (unhide H2 _ (unhide HB1)).mono ?_
  rintro _ w2 ⟨v2, p2, rfl, ho2, hs2, hb2⟩
  have HB2 := hide ((unhide HB1).trans (hb2.mono (unhide HB1).size))
  obtain ⟨A1, c1, rfl, _⟩ := own_slice (unhide HO1)
  obtain ⟨A2, c2, rfl, _⟩ := own_slice ho2
  have HSC := hide (sameCodes_any A1 A2 C.length c1 c2 C w2.heap.size w2 rfl (by have := unhide HS1; omega) (Reads.of_own (own_below' (unhide HO1) hb2)) (Reads.of_own ho2))
  have HP1' := hide (((unhide HP1).below hb2).more hb2.size)
  have HP2 := hide hs2
  have HSS := hide (fun W (hW : Below w2.heap.size w2 W) => sameStores_any p1 p2 P w2.heap.size W ((unhide HP1').below hW) ((unhide HP2).below hW) hW.size (unhide HS2) (unhide HS3))
  clear ho2 hs2 hb2
  go_wp2_with fail
  refine (unhide HSC).mono ?_
  rintro _ w3 ⟨rfl, hb3⟩
  have HB3 := hide hb3
  clear hb3
  go_wp2_with fail
  refine (unhide HSS _ (unhide HB3)).mono ?_
  rintro _ w4 ⟨rfl, hb4⟩
  have HB4 := hide ((unhide HB2).trans (((unhide HB3).trans (hb4.mono (unhide HB3).size)).mono (unhide HB2).size))
  clear hb4
  go_wp2_with fail
  go_ret
  exact ⟨rfl, unhide HB4⟩
end Go.Proofs.Ythmnfbnaeggknaa
