/- The card of a law. Conditions: none beyond what each theorem states. -/
import Derived.Test.YtbolcebmbpepdaaGreatDoorRows
import Derived.Test.YtbolcebmbpepdaaGreatDoorCards
import Derived.Test.YtbolcebmbpepdaaGreatDoorTie
import Derived.OpenShut
import Derived.Carry
import Derived.LaidMore
import Derived.Lib.LaidTab
import Derived.Stop.LaidErr
import Derived.MakeChecks
import Derived.SevenTiedAt
import Derived.Test.YtbolcebmbpepdaaGreatDoorM44
import Derived.Test.YtbolcebmbpepdaaGreatDoorM11
namespace Go.Proofs.YtbolcebmbpepdaaGreatDoor.topApart
open Go.ChangeShapes Go.WideShapes Go.ChangeAt Go.RowKit Go.Deep
set_option linter.unusedVariables false
theorem own : ownKnob Tryz.prog.godebug = none := by kernel_rfl
theorem laidOut : laidOutB Tryz.prog = true := by kernel_rfl
theorem gTab : Tryz.prog.globalNamed "splittally/world.orders" = some 0 := by kernel_rfl
theorem tTab : (Tryz.prog.globals[0]?).map (·.type) = some 176 := by kernel_rfl
theorem cInt : Tryz.prog.cellsOf 3 = 1 := by kernel_rfl
theorem cTab : Tryz.prog.cellsOf 176 = 5 := by kernel_rfl
theorem door_met (os : Os) (args : Array Value) : laidMetH Tryz.prog Rows.topApartRow.laid ((World.doorLaid Tryz.prog 88 os).forCall (fun _ _ => 0) ⟨#[], args, []⟩).memory :=
 laidMetH_of_parts3 (fuel := 8) (laidMet_of_run' 8 (by kernel_rfl) (by kernel_rfl)) (by kernel_rfl) (by kernel_rfl)
theorem of_laid {W : World} (h : laidMetH Tryz.prog Rows.topApartRow.laid W) : OrdT W ∧ 0 < W.heap.size := by
 rw [MakeChecks.laidMetH_plain _ _ _ (by kernel_rfl)] at h
 have h2 : laidMet Tryz.prog [("splittally/world.orders", Lib.tabData .i64 ([2, 3, 4, 5, 6] : List Int))] W := h
 have hT := Lib.tabIs_of_head gTab tTab Tryz.underlying176 Tryz.underlying3 cInt cTab h2
 have key : OrdT W := fun k hk => by
  have hc := hT.cell gTab k hk
  rw [hc]
  obtain h | h | h | h | h : k = 0 ∨ k = 1 ∨ k = 2 ∨ k = 3 ∨ k = 4 := by omega
  all_goals subst h; rfl
 refine ⟨key, ?_⟩
 have hc := key 0 (by omega)
 refine Nat.not_le.1 fun hn => ?_
 have : W.heap[0]? = none := Array.getElem?_eq_none hn
 unfold World.cell? at hc
 simp [this] at hc
theorem zOr {H : Type} {enc : TypeId × Value → H} {w : World} {base : Nat} {spare : Nat → Bool} {held : Bool} {fuel : Nat} {A : Option Addr} {len cap : Nat} {x : DataW H × List MemPlace}
    (h : DataW.trod enc Tryz.prog w base spare held fuel 43 [.slice A len cap] = some x) :
    len ≤ cap ∧ cap ≤ maxLen ∧ SliceD x.1 len ∧ ∃ l : List StpI, l.length = len ∧ Reads w w.heap.size 8 A len (l.flatMap StpI.cells) ∧ ∀ a ∈ l, zFm a := by
 refine zZm StpI.cells zFm Tryz.underlying43 (size := 8) (by kernel_rfl) (by omega) (fun n cs y hy => ?_) h
 obtain ⟨hl, ys, _, _, m, hf⟩ := zTz Tryz.underlying106 (by kernel_rfl) (by kernel_rfl) hy
 obtain ⟨v0, y0, c0, _, t0⟩ := hf 0 _ rfl
 obtain ⟨v1, y1, c1, _, t1⟩ := hf 1 _ rfl
 obtain ⟨v2, y2, c2, _, t2⟩ := hf 2 _ rfl
 obtain ⟨v3, y3, c3, _, t3⟩ := hf 3 _ rfl
 obtain ⟨v4, y4, c4, _, t4⟩ := hf 4 _ rfl
 obtain ⟨v5, y5, c5, _, t5⟩ := hf 5 _ rfl
 obtain ⟨v6, y6, c6, _, t6⟩ := hf 6 _ rfl
 obtain ⟨v7, y7, c7, _, t7⟩ := hf 7 _ rfl
 obtain ⟨z0, e0, _, w0⟩ := DataW.trod_int Tryz.underlying3 t0
 obtain ⟨z1, e1, _, w1⟩ := DataW.trod_int Tryz.underlying3 t1
 obtain ⟨z2, e2, _, w2⟩ := DataW.trod_int Tryz.underlying3 t2
 obtain ⟨z3, e3, _, w3⟩ := DataW.trod_int Tryz.underlying3 t3
 obtain ⟨z4, e4, _, w4⟩ := DataW.trod_int Tryz.underlying3 t4
 obtain ⟨z5, e5, _, w5⟩ := DataW.trod_int Tryz.underlying3 t5
 obtain ⟨z6, e6, _, w6⟩ := DataW.trod_int Tryz.underlying3 t6
 obtain ⟨z7, e7, _, w7⟩ := DataW.trod_int Tryz.underlying3 t7
 simp at e0 e1 e2 e3 e4 e5 e6 e7
 subst e0 e1 e2 e3 e4 e5 e6 e7
 refine ⟨hl, ⟨z0, z1, z2, z3, z4, z5, z6, z7⟩, ?_, w5⟩
 match cs, hl with
 | [a0, a1, a2, a3, a4, a5, a6, a7], _ =>
  simp at c0 c1 c2 c3 c4 c5 c6 c7
  simp [StpI.cells, c0, c1, c2, c3, c4, c5, c6, c7]
set_option maxRecDepth 100000 in
theorem lifted (os : Os) (started : os.Started) (H : Type) (enc : TypeId × Value → H) :
    ReturnsInHanded {} Tryz.checked os 6 .any (fun w args => (Rows.topApartSpec.pre enc Tryz.prog Tryz.f6 [] false w args ∧ laidMetH Tryz.prog Rows.topApartRow.laid w) ∧ sizedMet enc Tryz.prog Tryz.f6 (OpenSpec.ofChange Rows.topApartSpec) false w args)
     (Rows.topApartSpec.post enc Tryz.prog Tryz.f6 false true false false) := by
 refine returnsInHanded_of_change_and (C := Tryz.checked) (X := fun w _ => laidMetH Tryz.prog Rows.topApartRow.laid w) (fun _ _ _ hh h => h.of_heap hh) own started (by kernel_rfl) Tryz.func6
  (ChangeSpec.witness_shaped (enc := enc) (C := Tryz.checked) (os := os) (X := fun w _ => laidMetH Tryz.prog Rows.topApartRow.laid w) false (World.doorLaid Tryz.prog 88 os) #[.slice none 0 0, .int .i64 0, .int .i64 0, .int .i64 0, .slice none 0 0, .int .i64 0, .slice none 0 0] 8 rfl (World.shaped_of_RefB (by kernel_rfl) (by kernel_rfl)) (by kernel_rfl) (by kernel_rfl) (by kernel_rfl) (door_met os _)) ?_
 intro W base args ds gs before hval0 hW _ _ hL _
 have hval : ∀ (j : Nat) t v, Tryz.f6.params[j]? = some t → args[j]? = some v → Value.okWide Tryz.prog W .any base t v := hval0
 have hW' := hW
 obtain ⟨p, q, hA0, hV, rfl, hfz, hnd⟩ := hW
 have hA : DataW.TrodAll enc Tryz.prog W 0 (fun _ => true) true Tryz.f6.params.toList args.toList ds p := hA0
 rw [Tryz.params6] at hA hval
 obtain ⟨v0, vs0, d0, ds0, p0, q0, hargs, rfl, rfl, h0, r0x⟩ := trodAll_cons hA
 obtain ⟨v1, vs1, d1, ds1, p1, q1, rfl, rfl, rfl, h1, r1x⟩ := trodAll_cons r0x
 obtain ⟨v2, vs2, d2, ds2, p2, q2, rfl, rfl, rfl, h2, r2x⟩ := trodAll_cons r1x
 obtain ⟨v3, vs3, d3, ds3, p3, q3, rfl, rfl, rfl, h3, r3x⟩ := trodAll_cons r2x
 obtain ⟨v4, vs4, d4, ds4, p4, q4, rfl, rfl, rfl, h4, r4x⟩ := trodAll_cons r3x
 obtain ⟨v5, vs5, d5, ds5, p5, q5, rfl, rfl, rfl, h5, r5x⟩ := trodAll_cons r4x
 obtain ⟨v6, vs6, d6, ds6, p6, q6, rfl, rfl, rfl, h6, r6x⟩ := trodAll_cons r5x
 obtain ⟨rfl, rfl, rfl⟩ := trodAll_nil r6x
 obtain rfl : args = #[v0, v1, v2, v3, v4, v5, v6] := by cases args; simp_all
 obtain ⟨rfl, rfl⟩ := trodVars_none hV
 have k0 := h0
 have lt0 : ∀ x ∈ p0, x.block < W.heap.size := by obtain ⟨m, hm⟩ := k0; exact DataW.trod_lt m _ _ _ hm
 have k1 := h1
 have lt1 : ∀ x ∈ p1, x.block < W.heap.size := by obtain ⟨m, hm⟩ := k1; exact DataW.trod_lt m _ _ _ hm
 have k2 := h2
 have lt2 : ∀ x ∈ p2, x.block < W.heap.size := by obtain ⟨m, hm⟩ := k2; exact DataW.trod_lt m _ _ _ hm
 have k3 := h3
 have lt3 : ∀ x ∈ p3, x.block < W.heap.size := by obtain ⟨m, hm⟩ := k3; exact DataW.trod_lt m _ _ _ hm
 have k4 := h4
 have lt4 : ∀ x ∈ p4, x.block < W.heap.size := by obtain ⟨m, hm⟩ := k4; exact DataW.trod_lt m _ _ _ hm
 have k5 := h5
 have lt5 : ∀ x ∈ p5, x.block < W.heap.size := by obtain ⟨m, hm⟩ := k5; exact DataW.trod_lt m _ _ _ hm
 have k6 := h6
 have lt6 : ∀ x ∈ p6, x.block < W.heap.size := by obtain ⟨m, hm⟩ := k6; exact DataW.trod_lt m _ _ _ hm
 obtain ⟨A0, n0, c0, rfl⟩ := okWide_slice Tryz.underlying22 (hval 0 22 v0 rfl rfl)
 obtain ⟨l0, m0, z0, e0, r0, w0⟩ : n0 ≤ c0 ∧ c0 ≤ maxLen ∧ ∃ zs : List Int, zs.length = n0 ∧ Reads W W.heap.size 1 A0 n0 (zs.map (.int .i64)) ∧ ∀ z ∈ zs, (Lit.int .i64 z).wf = true := by
  obtain ⟨fuel, hf⟩ := h0
  exact yBj Tryz.underlying22 Tryz.underlying3 (by kernel_rfl) (by simpa [Value.cells] using hf)
 obtain ⟨a1, rfl, rfl, rfl, w1⟩ := open_int Tryz.underlying3 (hval 1 3 v1 rfl rfl) h1
 obtain ⟨a2, rfl, rfl, rfl, w2⟩ := open_int Tryz.underlying3 (hval 2 3 v2 rfl rfl) h2
 obtain ⟨a3, rfl, rfl, rfl, w3⟩ := open_int Tryz.underlying3 (hval 3 3 v3 rfl rfl) h3
 obtain ⟨A4, n4, c4, rfl⟩ := okWide_slice Tryz.underlying43 (hval 4 43 v4 rfl rfl)
 obtain ⟨fuel4, hf4⟩ := h4
 obtain ⟨l4, mx4, sd4, z4, e4, r4, w4⟩ := zOr (by simpa [Value.cells] using hf4)
 obtain ⟨a5, rfl, rfl, rfl, w5⟩ := open_int Tryz.underlying3 (hval 5 3 v5 rfl rfl) h5
 obtain ⟨A6, n6, c6, rfl⟩ := okWide_slice Tryz.underlying43 (hval 6 43 v6 rfl rfl)
 obtain ⟨fuel6, hf6⟩ := h6
 obtain ⟨l6, mx6, sd6, z6, e6, r6, w6⟩ := zOr (by simpa [Value.cells] using hf6)
 clear hA0 hval0
 obtain ⟨hT, hg⟩ := of_laid hL
 refine (zVf A0 A4 A6 n0 c0 n4 c4 n6 c6 z0 z4 z6 a1 a2 a3 a5 W.heap.size W e0 (Nat.le_trans l0 m0) r0 e4 (Nat.le_trans l4 mx4) r4 e6 (Nat.le_trans l6 mx6) r6 w6 (Nat.le_refl _) hT hg).mono fun e W' ⟨he, bel⟩ => ?_
 subst he
 exact ⟨_, rfl, _, _, _, [], _, [], hW', trodAll_mk1 (shut_bool Tryz.underlying4 _), (trodAll_cons_mk (Below.trod laidOut (by kernel_rfl) (of_decide_eq_true (by kernel_rfl)) k0 bel lt0) (trodAll_cons_mk (Below.trod laidOut (by kernel_rfl) (of_decide_eq_true (by kernel_rfl)) k1 bel lt1) (trodAll_cons_mk (Below.trod laidOut (by kernel_rfl) (of_decide_eq_true (by kernel_rfl)) k2 bel lt2) (trodAll_cons_mk (Below.trod laidOut (by kernel_rfl) (of_decide_eq_true (by kernel_rfl)) k3 bel lt3) (trodAll_cons_mk (Below.trod laidOut (by kernel_rfl) (of_decide_eq_true (by kernel_rfl)) k4 bel lt4) (trodAll_cons_mk (Below.trod laidOut (by kernel_rfl) (of_decide_eq_true (by kernel_rfl)) k5 bel lt5) (trodAll_cons_mk (Below.trod laidOut (by kernel_rfl) (of_decide_eq_true (by kernel_rfl)) k6 bel lt6) trodAll_mk0))))))), rfl, bel.frame _, fun h => by cases h⟩
theorem over : Rows.topApartRow.holds Tryz.pinned (OpenSpec.ofChange Rows.topApartSpec) :=
 OpenClaim.holds_of_wide 6 Tryz.f6 rfl rfl rfl rfl rfl rfl rfl ⟨rfl, rfl, rfl, rfl, rfl⟩ rfl rfl rfl rfl rfl (by kernel_rfl) Tryz.func6 (by kernel_rfl)
  (of_decide_eq_true (by kernel_rfl)) (by unfold Func.isWrapper; first | (rw [if_pos (by decide +kernel)]; kernel_rfl) | (rw [if_neg (by decide +kernel)]; exact ⟨rfl, rfl⟩))
  (fun os started H enc _ => lifted os started H enc)
theorem proved : Rows.TopApartCardSaid :=
 Claim7.holds_tied_plain_at .later [] [.data] true (true, "befab7067fda945a984b499ae9c5b93e767ee9a7dc07b64aa94b40456139afd9") false
  over (fun _ h => by cases h) (by kernel_rfl) (fun _ h => by cases h) topApart_row_tie rfl ⟨rfl, rfl⟩ (by kernel_rfl) rfl
  (fun f fn hf hfn => by
   obtain rfl : f = 6 := Option.some.inj ((show Tryz.prog.funcNamed "splittally/splittallytop.TopApart" = some 6 by kernel_rfl).symm.trans hf) |>.symm
   obtain rfl : fn = Tryz.f6 := (Option.some.inj (Tryz.func6.symm.trans hfn)).symm
   exact ⟨by kernel_rfl, fun j t ht => by
    rw [Tryz.params6] at ht
    have hm : t ∈ ([22, 3, 3, 3, 43, 3, 43] : List TypeId) := by
     have h := Array.mem_of_getElem? ht
     simpa using h
    have hall : (([22, 3, 3, 3, 43, 3, 43] : List TypeId).all fun u => !Tryz.prog.wantsStandIn u) = true := by kernel_rfl
    exact (show Tryz.prog.wantsStandIn t = false by simpa using List.all_eq_true.1 hall t hm)⟩)
  (by kernel_rfl)
end Go.Proofs.YtbolcebmbpepdaaGreatDoor.topApart
