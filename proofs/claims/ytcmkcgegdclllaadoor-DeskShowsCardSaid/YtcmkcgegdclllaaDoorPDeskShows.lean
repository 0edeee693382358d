/- DeskShows: for every input the law returns true, and the argument reads behind the call as it read before; the listed tables are tied to the program's text (the card). Conditions: none. -/
import Derived.Test.YtcmkcgegdclllaaDoorRows
import Derived.Test.YtcmkcgegdclllaaDoorCards
import Derived.Test.YtcmkcgegdclllaaDoorTie
import Derived.Test.YtcmkcgegdclllaaDoorDesG
import Derived.Test.YtcmkcgegdclllaaDoorOpen
import Derived.OpenShut
import Derived.Carry
import Derived.LaidMore
import Derived.Lib.LaidTab
import Derived.Stop.LaidErr
import Derived.MakeChecks
import Derived.SevenTiedAt
namespace Go.Proofs.YtcmkcgegdclllaaDoor.deskShows
open Go.ChangeShapes Go.WideShapes Go.ChangeAt Go.RowKit
set_option linter.unusedVariables false

theorem own : ownKnob Tryd.prog.godebug = none := by kernel_rfl
theorem laidOut : laidOutB Tryd.prog = true := by kernel_rfl
theorem tPow : (Tryd.prog.globals[5]?).map (·.type) = some 105 := by kernel_rfl
theorem cU64 : Tryd.prog.cellsOf 65 = 1 := by kernel_rfl
theorem cPow : Tryd.prog.cellsOf 105 = 20 := by kernel_rfl
theorem gWords : Tryd.prog.globalNamed "splittally/desk.words" = some 0 := by kernel_rfl
theorem tWords : (Tryd.prog.globals[0]?).map (·.type) = some 41 := by kernel_rfl
theorem cStr : Tryd.prog.cellsOf 9 = 1 := by kernel_rfl
theorem cPair : Tryd.prog.cellsOf 40 = 2 := by kernel_rfl
/-- the door's own heap meets the condition -/
theorem door_met (os : Os) (args : Array Value) : laidMetH Tryd.prog Rows.deskShowsRow.laid ((World.doorLaid Tryd.prog 88 os).forCall (fun _ _ => 0) ⟨#[], args, []⟩).memory :=
  laidMetH_of_parts3 (fuel := 8) (laidMet_of_run' 8 (by kernel_rfl) (by kernel_rfl)) (by kernel_rfl) (by kernel_rfl)
theorem words_datum : (Rows.laid_splittally_desk_words : DataW Unit) = .agg ((List.range 11).map fun m => .agg [.lit (.string (wordL m)), .lit (.string (signL m))]) := by kernel_rfl
set_option maxRecDepth 100000 in
/-- the words, read off the datum -/
theorem words_at {W : World} (h : laidMet Tryd.prog [("splittally/desk.words", Rows.laid_splittally_desk_words)] W) : (∀ m : Nat, m < 11 → W.cell? ⟨0, m * 2, none⟩ = some (.string (bstr (wordL m))) ∧ W.cell? ⟨0, m * 2 + 1, none⟩ = some (.string (bstr (signL m)))) ∧ 0 < W.heap.size := by
  obtain ⟨ps, ⟨g', t', cs, fuel, p, q, hg', ht', hvar, hd, _, _⟩, _⟩ := h
  obtain rfl := Option.some.inj (gWords.symm.trans hg')
  obtain rfl := Option.some.inj (tWords.symm.trans ht')
  obtain ⟨xs, m1, _, hx, hl, hn, hel⟩ := DataW.trod_array Tryd.underlying41 hd
  rw [words_datum] at hx
  have hx1 : xs.map (·.1) = (List.range 11).map fun m => .agg [.lit (.string (wordL m)), .lit (.string (signL m))] := by
    have h1 := congrArg Prod.fst hx
    dsimp only at h1
    exact (DataW.agg.inj h1).symm
  have hcell : ∀ i : Nat, W.cell? ⟨0, i, none⟩ = cs.toList[i]? := fun i => by
    rw [World.var?_cell gWords hvar i]
    simp
  have key : ∀ m : Nat, m < 11 → cs.toList[m * 2]? = some (.string (bstr (wordL m))) ∧ cs.toList[m * 2 + 1]? = some (.string (bstr (signL m))) := fun m hm => by
    have h1 := hel m hm
    have hxm : xs[m]? = some (xs[m]'(by omega)) := List.getElem?_eq_getElem _
    have hd1 : (xs[m]'(by omega)).1 = .agg [.lit (.string (wordL m)), .lit (.string (signL m))] := by
      have h2 : (xs.map (·.1))[m]? = some (xs[m]'(by omega)).1 := by rw [List.getElem?_map, hxm]; rfl
      rw [hx1, List.getElem?_map, List.getElem?_range hm] at h2
      exact (Option.some.inj h2).symm
    generalize xs[m]'(by omega) = y at hxm hd1
    rw [hxm, cPair] at h1
    obtain ⟨ys, m2, _, hy, hl2, hn2, hel2⟩ := DataW.trod_array Tryd.underlying40 h1
    rw [hy] at hd1
    have hd2 : ys.map (·.1) = [.lit (.string (wordL m)), .lit (.string (signL m))] := DataW.agg.inj hd1
    obtain ⟨y0, y1, rfl⟩ : ∃ y0 y1, ys = [y0, y1] := by
      match ys, hn2 with
      | [y0, y1], _ => exact ⟨y0, y1, rfl⟩
    have hd3 : y0.1 = .lit (.string (wordL m)) ∧ y1.1 = .lit (.string (signL m)) := by
      have h3 := List.cons.inj hd2
      exact ⟨h3.1, (List.cons.inj h3.2).1⟩
    have e0 := hel2 0 (by omega)
    have e1 := hel2 1 (by omega)
    rw [cStr] at e0 e1
    obtain ⟨s0, q0, r0, _⟩ := DataW.trod_string Tryd.underlying9 e0
    obtain ⟨s1, q1, r1, _⟩ := DataW.trod_string Tryd.underlying9 e1
    rw [r0, r1] at hd3
    have b0 : s0 = bstr (wordL m) := by
      have := (Lit.string.inj (DataW.lit.inj hd3.1))
      rw [← this]
      cases s0
      simp [bstr]
    have b1 : s1 = bstr (signL m) := by
      have := (Lit.string.inj (DataW.lit.inj hd3.2))
      rw [← this]
      cases s1
      simp [bstr]
    have p0 := congrArg (fun l => l[0]?) q0
    have p1 := congrArg (fun l => l[0]?) q1
    simp [List.getElem?_take, List.getElem?_drop] at p0 p1
    rw [b0] at p0
    rw [b1] at p1
    exact ⟨by simpa using p0, by simpa using p1⟩
  refine ⟨fun m hm => ⟨(hcell _).trans (key m hm).1, (hcell _).trans (key m hm).2⟩, ?_⟩
  have hc := (hcell 0).trans (key 0 (by omega)).1
  refine Nat.not_le.1 fun hn => ?_
  have : W.heap[0]? = none := Array.getElem?_eq_none hn
  unfold World.cell? at hc
  simp [this] at hc
theorem of_laid {W : World} (h : laidMetH Tryd.prog Rows.deskShowsRow.laid W) : TabS W := by
  rw [MakeChecks.laidMetH_plain _ _ _ (by kernel_rfl)] at h
  have h2 : laidMet Tryd.prog (("internal/strconv.uint64pow10", Lib.tabData .u64 Lib.pow10Tab) :: [("splittally/desk.words", Rows.laid_splittally_desk_words)]) W := laidMet.tail (laidMet.tail h)
  have hP := Lib.tabIs_of_head gPow tPow Tryd.underlying105 Tryd.underlying65 cU64 cPow h2
  obtain ⟨h3, h4⟩ := words_at (laidMet.tail h2)
  exact ⟨hP, h3, h4⟩
set_option maxRecDepth 100000 in
theorem lifted (os : Os) (started : os.Started) (H : Type) (enc : TypeId × Value → H) :
    ReturnsInHanded {} Tryd.checked os 4 .any (fun w args => (Rows.deskShowsSpec.pre enc Tryd.prog Tryd.f4 [] false w args ∧ laidMetH Tryd.prog Rows.deskShowsRow.laid w) ∧ sizedMet enc Tryd.prog Tryd.f4 (OpenSpec.ofChange Rows.deskShowsSpec) false w args)
      (Rows.deskShowsSpec.post enc Tryd.prog Tryd.f4 false true false false) := by
  refine returnsInHanded_of_change_and (C := Tryd.checked) (X := fun w _ => laidMetH Tryd.prog Rows.deskShowsRow.laid w) (fun _ _ _ hh h => h.of_heap hh) own started (by kernel_rfl) Tryd.func4
    (ChangeSpec.witness_shaped (enc := enc) (C := Tryd.checked) (os := os) (X := fun w _ => laidMetH Tryd.prog Rows.deskShowsRow.laid w) false (World.doorLaid Tryd.prog 88 os) #[.agg #[.int .i64 0, .int .i64 0, .int .i64 0, .int .i64 0, .int .i64 0, .int .i64 0, .int .i64 0, .int .i64 0]] 8 rfl (World.shaped_of_RefB (by kernel_rfl) (by kernel_rfl)) (by kernel_rfl) (by kernel_rfl) (by kernel_rfl) (door_met os _)) ?_
  intro W base args ds gs before hval0 hW _ _ hL _
  have hval : ∀ (j : Nat) t v, Tryd.f4.params[j]? = some t → args[j]? = some v → Value.okWide Tryd.prog W .any base t v := hval0
  have hW' := hW
  obtain ⟨p, q, hA0, hV, rfl, hfz, hnd⟩ := hW
  have hA : DataW.TrodAll enc Tryd.prog W 0 (fun _ => true) true Tryd.f4.params.toList args.toList ds p := hA0
  rw [Tryd.params4] at hA hval
  obtain ⟨v0, vs0, d0, ds0, p0, q0, hargs, rfl, rfl, h0, r0x⟩ := trodAll_cons hA
  obtain ⟨rfl, rfl, rfl⟩ := trodAll_nil r0x
  obtain rfl : args = #[v0] := by cases args; simp_all
  obtain ⟨rfl, rfl⟩ := trodVars_none hV
  have k0 := h0
  have lt0 : ∀ x ∈ p0, x.block < W.heap.size := by obtain ⟨m, hm⟩ := k0; exact DataW.trod_lt m _ _ _ hm
  obtain ⟨x0, x1, x2, x3, x4, x5, x6, x7, rfl, w0⟩ := open_step (hval 0 29 v0 rfl rfl) h0
  clear hA0 hval0
  refine (walk_DeskShows x0 x1 x2 x3 x4 x5 x6 x7 W (of_laid hL) w0).mono fun e W' ⟨he, bel⟩ => ?_
  subst he
  exact ⟨_, rfl, _, _, _, [], _, [], hW', trodAll_mk1 (shut_bool Tryd.underlying4 _), (trodAll_cons_mk (Below.trod laidOut (by kernel_rfl) (of_decide_eq_true (by kernel_rfl)) k0 bel lt0) trodAll_mk0), rfl, bel.frame _, fun h => by cases h⟩
theorem over : Rows.deskShowsRow.holds Tryd.pinned (OpenSpec.ofChange Rows.deskShowsSpec) :=
  OpenClaim.holds_of_wide 4 Tryd.f4 rfl rfl rfl rfl rfl rfl rfl ⟨rfl, rfl, rfl, rfl, rfl⟩ rfl rfl rfl rfl rfl (by kernel_rfl) Tryd.func4 (by kernel_rfl)
    (of_decide_eq_true (by kernel_rfl)) (by unfold Func.isWrapper; first | (rw [if_pos (by decide +kernel)]; kernel_rfl) | (rw [if_neg (by decide +kernel)]; exact ⟨rfl, rfl⟩))
    (fun os started H enc _ => lifted os started H enc)
theorem proved : Rows.DeskShowsCardSaid :=
  Claim7.holds_tied_plain_at .later [] [.data, .data, .data, .widerDeep] true (true, "2d2a7f119cf991db4553f884fcf5d935926a4640b876682b3960d578e89272d8") true
    over (fun _ h => by cases h) (by kernel_rfl) (fun _ h => by cases h) deskShows_row_tie rfl ⟨rfl, rfl⟩ (by kernel_rfl) rfl
    (fun f fn hf hfn => by
      obtain rfl : f = 4 := Option.some.inj ((show Tryd.prog.funcNamed "splittally/splittallylaw.DeskShows" = some 4 by kernel_rfl).symm.trans hf) |>.symm
      obtain rfl : fn = Tryd.f4 := (Option.some.inj (Tryd.func4.symm.trans hfn)).symm
      exact ⟨by kernel_rfl, fun j t ht => by
        rw [Tryd.params4] at ht
        have hm : t ∈ [29] := by simpa using Array.mem_of_getElem? ht
        have hall : ([29].all fun u => !Tryd.prog.wantsStandIn u) = true := by kernel_rfl
        exact (show Tryd.prog.wantsStandIn t = false by simpa using List.all_eq_true.1 hall t hm)⟩)
    (by kernel_rfl)
end Go.Proofs.YtcmkcgegdclllaaDoor.deskShows
