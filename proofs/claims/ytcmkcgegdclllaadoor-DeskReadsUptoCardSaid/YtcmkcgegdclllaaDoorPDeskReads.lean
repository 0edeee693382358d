/- DeskReads, the second form: for every line whose length fits the bound of the row, the law returns true, and the argument reads behind the call as it read before; the listed tables are tied to the program's text (the card). Conditions: the row's own bound on the argument's bulk. -/
import Derived.Test.YtcmkcgegdclllaaDoorRows
import Derived.Test.YtcmkcgegdclllaaDoorCards
import Derived.Test.YtcmkcgegdclllaaDoorTie
import Derived.Test.YtcmkcgegdclllaaDoorReaG
import Derived.Test.YtcmkcgegdclllaaDoorOpen
import Derived.OpenShut
import Derived.Carry
import Derived.LaidMore
import Derived.Lib.LaidTab
import Derived.Stop.LaidErr
import Derived.MakeChecks
import Derived.SevenTiedAt
import Derived.Deep.DeepHandedRow
import Derived.Lay
import Derived.Deep.DeepWitnessRowRef
namespace Go.Proofs.YtcmkcgegdclllaaDoor.deskReads
open Go.ChangeShapes Go.WideShapes Go.ChangeAt Go.RowKit Go.ChangeMaps
set_option linter.unusedVariables false

theorem own : ownKnob Tryd.prog.godebug = none := by kernel_rfl
theorem laidOut : laidOutB Tryd.prog = true := by kernel_rfl
theorem tPow : (Tryd.prog.globals[5]?).map (·.type) = some 105 := by kernel_rfl
theorem cU64 : Tryd.prog.cellsOf 65 = 1 := by kernel_rfl
theorem cPow : Tryd.prog.cellsOf 105 = 20 := by kernel_rfl
theorem gWords : Tryd.prog.globalNamed "splittally/desk.words" = some 0 := by kernel_rfl
theorem tWords : (Tryd.prog.globals[0]?).map (·.type) = some 41 := by kernel_rfl
theorem cStr : Tryd.prog.cellsOf 9 = 1 := by kernel_rfl
theorem cPair : Tryd.prog.cellsOf 40 = 2 := by kernel_rfl
/-- a world that holds what the row lists -/
theorem laid_met (os : Os) (args : Array Value) : laidMetH Tryd.prog Rows.deskReadsUptoRow.laid ((World.laidAll Tryd.prog os Rows.deskReadsUptoRow.laid).forCall (fun _ _ => 0) ⟨#[], args, []⟩).memory := by
  rw [MakeChecks.laidMetH_plain _ _ _ (by kernel_rfl)]
  exact laidMet_laidAll _ (by kernel_rfl) (by kernel_rfl)
theorem words_datum : (Rows.laid_splittally_desk_words : DataW Unit) = .agg ((List.range 11).map fun m => .agg [.lit (.string (wordL m)), .lit (.string (signL m))]) := by kernel_rfl
set_option maxRecDepth 100000 in
/-- the words, read off the datum -/
theorem words_at {W : World} {r : List (String × DataW Unit)} (h : laidMet Tryd.prog (("splittally/desk.words", Rows.laid_splittally_desk_words) :: r) W) : (∀ m : Nat, m < 11 → W.cell? ⟨0, m * 2, none⟩ = some (.string (bstr (wordL m))) ∧ W.cell? ⟨0, m * 2 + 1, none⟩ = some (.string (bstr (signL m)))) ∧ 0 < W.heap.size := by
  obtain ⟨ps, ⟨g', t', cs, fuel, p, q, hg', ht', hvar, hd, _, _⟩, _⟩ := h
  obtain rfl := Option.some.inj (gWords.symm.trans hg')
  obtain rfl := Option.some.inj (tWords.symm.trans ht')
  obtain ⟨xs, m1, _, hx, hl, hn, hel⟩ := DataW.trod_array Tryd.underlying41 hd
  rw [words_datum] at hx
  have hx1 : xs.map (·.1) = (List.range 11).map fun m => .agg [.lit (.string (wordL m)), .lit (.string (signL m))] := by
    have h1 := congrArg Prod.fst hx
    dsimp only at h1
    exact (DataW.agg.inj h1).symm
  have hcell : ∀ i : Nat, W.cell? ⟨0, i, none⟩ = cs.toList[i]? := fun i => by
    rw [World.var?_cell gWords hvar i]
    simp
  have key : ∀ m : Nat, m < 11 → cs.toList[m * 2]? = some (.string (bstr (wordL m))) ∧ cs.toList[m * 2 + 1]? = some (.string (bstr (signL m))) := fun m hm => by
    have h1 := hel m hm
    have hxm : xs[m]? = some (xs[m]'(by omega)) := List.getElem?_eq_getElem _
    have hd1 : (xs[m]'(by omega)).1 = .agg [.lit (.string (wordL m)), .lit (.string (signL m))] := by
      have h2 : (xs.map (·.1))[m]? = some (xs[m]'(by omega)).1 := by rw [List.getElem?_map, hxm]; rfl
      rw [hx1, List.getElem?_map, List.getElem?_range hm] at h2
      exact (Option.some.inj h2).symm
    generalize xs[m]'(by omega) = y at hxm hd1
    rw [hxm, cPair] at h1
    obtain ⟨ys, m2, _, hy, hl2, hn2, hel2⟩ := DataW.trod_array Tryd.underlying40 h1
    rw [hy] at hd1
    have hd2 : ys.map (·.1) = [.lit (.string (wordL m)), .lit (.string (signL m))] := DataW.agg.inj hd1
    obtain ⟨y0, y1, rfl⟩ : ∃ y0 y1, ys = [y0, y1] := by
      match ys, hn2 with
      | [y0, y1], _ => exact ⟨y0, y1, rfl⟩
    have hd3 : y0.1 = .lit (.string (wordL m)) ∧ y1.1 = .lit (.string (signL m)) := by
      have h3 := List.cons.inj hd2
      exact ⟨h3.1, (List.cons.inj h3.2).1⟩
    have e0 := hel2 0 (by omega)
    have e1 := hel2 1 (by omega)
    rw [cStr] at e0 e1
    obtain ⟨s0, q0, r0, _⟩ := DataW.trod_string Tryd.underlying9 e0
    obtain ⟨s1, q1, r1, _⟩ := DataW.trod_string Tryd.underlying9 e1
    rw [r0, r1] at hd3
    have b0 : s0 = bstr (wordL m) := by
      have := (Lit.string.inj (DataW.lit.inj hd3.1))
      rw [← this]
      cases s0
      simp [bstr]
    have b1 : s1 = bstr (signL m) := by
      have := (Lit.string.inj (DataW.lit.inj hd3.2))
      rw [← this]
      cases s1
      simp [bstr]
    have p0 := congrArg (fun l => l[0]?) q0
    have p1 := congrArg (fun l => l[0]?) q1
    simp [List.getElem?_drop] at p0 p1
    rw [b0] at p0
    rw [b1] at p1
    exact ⟨by simpa using p0, by simpa using p1⟩
  refine ⟨fun m hm => ⟨(hcell _).trans (key m hm).1, (hcell _).trans (key m hm).2⟩, ?_⟩
  have hc := (hcell 0).trans (key 0 (by omega)).1
  refine Nat.not_le.1 fun hn => ?_
  have : W.heap[0]? = none := Array.getElem?_eq_none hn
  unfold World.cell? at hc
  simp [this] at hc
theorem gEr : Tryd.prog.globalNamed "strconv.ErrRange" = some 4 := by kernel_rfl
theorem gEs : Tryd.prog.globalNamed "strconv.ErrSyntax" = some 3 := by kernel_rfl
theorem tEr : (Tryd.prog.globals[4]?).map (·.type) = some 56 := by kernel_rfl
theorem tEs : (Tryd.prog.globals[3]?).map (·.type) = some 56 := by kernel_rfl
theorem star : "*" ++ "errors.errorString" = "*errors.errorString" := by decide
theorem rowE (u : TypeId) (h : Tryd.prog.typeName? 3 u = some "*errors.errorString") : u = 108 :=
  typeName_ptr_named (nm := "errors.errorString") (by rw [star]; kernel_rfl) (by kernel_rfl) (by decide) u (by rw [star]; exact h)
theorem cErr : Tryd.prog.cellsOf 110 = 1 := by kernel_rfl
theorem of_laid {W : World} (h : laidMetH Tryd.prog Rows.deskReadsUptoRow.laid W) (hs : W.ShapedOpen Tryd.prog) : TabR W := by
  rw [MakeChecks.laidMetH_plain _ _ _ (by kernel_rfl)] at h
  have h2 := laidMet.tail (laidMet.tail h)
  have hP := Lib.tabIs_of_head gPow tPow Tryd.underlying105 Tryd.underlying65 cU64 cPow (show laidMet Tryd.prog (("internal/strconv.uint64pow10", Lib.tabData .u64 Lib.pow10Tab) :: _) W from h2)
  have h3 := laidMet.tail (laidMet.tail h2)
  obtain ⟨a1, s1, v1, _, _, _⟩ := laid_sentinel h3 gEr tEr Tryd.underlying56 rowE Tryd.underlying108 Tryd.underlying110 rfl rfl Tryd.underlying9 cErr cStr
  have h4 := laidMet.tail h3
  obtain ⟨a2, s2, v2, _, _, _⟩ := laid_sentinel h4 gEs tEs Tryd.underlying56 rowE Tryd.underlying108 Tryd.underlying110 rfl rfl Tryd.underlying9 cErr cStr
  obtain ⟨h5, h6⟩ := words_at (laidMet.tail h4)
  obtain ⟨m, hm⟩ := Tryd.laysM146.s1_3 W hs
  refine ⟨⟨hP, h5, h6⟩, ⟨?_, m, hm⟩, ⟨_, _, v2⟩, ⟨_, _, v1⟩⟩
  refine Nat.not_le.1 fun hn => ?_
  have : W.heap[6]? = none := Array.getElem?_eq_none hn
  have hm' : W.cell? ⟨6, 0, none⟩ = some (.int .i64 m) := hm
  unfold World.cell? at hm'
  simp [this] at hm'
theorem reads (os : Os) {H : Type} (enc : TypeId × Value → H) : ∃ places, DataW.whole enc Tryd.prog ((World.laidAll Tryd.prog os Rows.deskReadsUptoRow.laid).forCall (fun _ _ => 0) ⟨#[], #[.string ⟨#[]⟩], []⟩).memory Tryd.f5.params.toList Rows.deskReadsSpec.vars false #[Value.string ⟨#[]⟩].toList 8 = some ([.lit (.string [])], [], places) :=
  ⟨[], by kernel_rfl⟩
set_option maxRecDepth 100000 in
theorem lifted (os : Os) (started : os.Started) (H : Type) (enc : TypeId × Value → H) (F : Stop.Interp) :
    ReturnsInHanded {} Tryd.checked os 5 .any ((Rows.OpenSpec.upto Rows.deskReadsSpec).preRow enc Tryd.prog Tryd.f5 Rows.deskReadsUptoRow.domain false Rows.deskReadsUptoRow.laid)
      (((Rows.OpenSpec.upto Rows.deskReadsSpec).at F).post enc Tryd.prog Tryd.f5 false true false false) := by
  obtain ⟨places, hx⟩ := reads os enc
  refine returnsInHanded_of_row (C := Tryd.checked) (s := Rows.OpenSpec.upto Rows.deskReadsSpec) own started (by kernel_rfl) Tryd.func5
    (witness_row_atRef (enc := enc) (C := Tryd.checked) false (World.laidAll Tryd.prog os Rows.deskReadsUptoRow.laid) #[.string ⟨#[]⟩] (World.laidAll_os _ _ _) (by kernel_rfl) (by kernel_rfl) (by kernel_rfl)
      (OpenSpec.preRow_of_cond 8 hx (by kernel_rfl) (fun k hk => by cases hk; kernel_rfl) (by kernel_rfl) (laid_met os _))) ?_
  intro W base args ds gs before hval0 hW _ hcond _ hL hsh _
  have hval : ∀ (j : Nat) t v, Tryd.f5.params[j]? = some t → args[j]? = some v → Value.okWide Tryd.prog W .any base t v := hval0
  have hW' := hW
  obtain ⟨p, q, hA0, hV, rfl, hfz, hnd⟩ := hW
  have hA : DataW.TrodAll enc Tryd.prog W 0 (fun _ => true) true Tryd.f5.params.toList args.toList ds p := hA0
  rw [Tryd.params5] at hA hval
  obtain ⟨v0, vs0, d0, ds0, p0, q0, hargs, rfl, rfl, h0, r0x⟩ := trodAll_cons hA
  obtain ⟨rfl, rfl, rfl⟩ := trodAll_nil r0x
  obtain rfl : args = #[v0] := by cases args; simp_all
  obtain ⟨rfl, rfl⟩ := trodVars_none hV
  obtain ⟨s, rfl, rfl, rfl, hs⟩ := open_string Tryd.underlying9 (hval 0 9 v0 rfl rfl) h0
  have hb : s.data.toList.length ≤ 1048576 := by
    have h1 := hcond _ rfl
    simp only [Rows.uptoSmall, decide_eq_true_eq, Rows.uptoBulkAll, Rows.uptoBulk, List.append_nil] at h1
    omega
  have hbs : s = bstr s.data.toList := by cases s; simp [bstr]
  clear hA0 hval0
  rw [hbs]
  rw [hbs] at hW'
  refine (walk_DeskReads s.data.toList W hb (of_laid hL hsh)).mono fun e W' ⟨he, bel⟩ => ?_
  subst he
  exact ⟨_, rfl, _, _, _, [], _, [], hW', trodAll_mk1 (shut_bool Tryd.underlying4 _), trodAll_mk1 (shut_string Tryd.underlying9 (hbs ▸ hs)), rfl, bel.frame _, fun h => by cases h⟩
theorem over : Rows.DeskReadsUptoSaid :=
  OpenClaim.holds_of_cond 5 Tryd.f5 rfl rfl rfl rfl rfl rfl rfl ⟨rfl, rfl, rfl, rfl, rfl⟩ rfl rfl rfl rfl rfl (by kernel_rfl) Tryd.func5 (by kernel_rfl)
    (of_decide_eq_true (by kernel_rfl)) (by unfold Func.isWrapper; first | (rw [if_pos (by decide +kernel)]; kernel_rfl) | (rw [if_neg (by decide +kernel)]; exact ⟨rfl, rfl⟩))
    (fun os started H enc _ F => by rw [OpenClaim.pre_eq_preRow]; exact lifted os started H enc F)
theorem plain (f : FuncId) (fn : Func) (hf : Tryd.pinned.checked.prog.funcNamed "splittally/splittallylaw.DeskReads" = some f) (hfn : Tryd.pinned.checked.prog.funcs[f]? = some fn) :
    true = Tryd.pinned.checked.prog.looks [] ∧ ∀ (j : Nat) t, fn.params[j]? = some t → Tryd.pinned.checked.prog.wantsStandIn t = false := by
  obtain rfl : f = 5 := Option.some.inj ((show Tryd.prog.funcNamed "splittally/splittallylaw.DeskReads" = some 5 by kernel_rfl).symm.trans hf) |>.symm
  obtain rfl : fn = Tryd.f5 := (Option.some.inj (Tryd.func5.symm.trans hfn)).symm
  refine ⟨by kernel_rfl, fun j t ht => ?_⟩
  rw [Tryd.params5] at ht
  obtain rfl : t = 9 := by simpa using Array.mem_of_getElem? ht
  exact (show Tryd.prog.wantsStandIn 9 = false by kernel_rfl)
theorem proved : Rows.DeskReadsUptoCardSaid :=
  Claim7.holds_tied_plain_at .later [] _ _ _ _ over (fun _ h => by cases h) (by kernel_rfl) (fun _ h => by cases h) deskReadsUpto_row_tie rfl ⟨rfl, rfl⟩ (by kernel_rfl) rfl plain (by kernel_rfl)
end Go.Proofs.YtcmkcgegdclllaaDoor.deskReads
